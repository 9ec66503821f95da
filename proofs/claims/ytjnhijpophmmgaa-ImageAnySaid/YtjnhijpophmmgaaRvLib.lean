/- RvLib: small laws for the contracts' proofs. -/
import Derived.Test.YtjnhijpophmmgaaRvLay
set_option linter.unusedVariables false
set_option linter.unusedSimpArgs false
namespace Go.Proofs.Rv
open Go

theorem HFz.back {F : Nat → Prop} {h hh : Heap} (h1 : ∀ o, F o → h o = none) (h2 : ∀ o, h o ≠ none → hh o = h o) : HFz F hh h :=
  HFz.sub fun o ob ho => ⟨fun hf => (by rw [h1 o hf] at ho; cases ho), (by rw [h2 o (by rw [ho]; simp), ho])⟩

theorem Heap.upd_upd {h : Heap} {o : Nat} {x y : Obj} : (h.upd o x).upd o y = h.upd o y := by
  funext q; unfold Heap.upd; split <;> rfl
theorem Heap.new2 {h : Heap} {o p : Nat} {x : Obj} (ho : h o = none) (hp : ((h.upd o x).del o) p = none) : h p = none := by
  by_cases e : p = o
  · rw [e]; exact ho
  · rw [Heap.del_ne e, Heap.upd_ne e] at hp; exact hp
theorem Heap.keep2 {h : Heap} {o p : Nat} {x y : Obj} (ho : h o = none) (hp : h p = none) : ∀ q, h q ≠ none → (((h.upd o x).del o).upd p y) q = h q := fun q hq => by
  have h1 : q ≠ o := by rintro rfl; exact hq ho
  have h2 : q ≠ p := by rintro rfl; exact hq hp
  rw [Heap.upd_ne h2, Heap.del_ne h1, Heap.upd_ne h1]
theorem Heap.le3 {h : Heap} {o v p : Nat} {X Y Z : Obj} (ho : h o = none) (hv : h v = none) : ∀ q ob, (h.upd p Z) q = some ob → ((((h.upd o X).upd v Y).del o).upd p Z) q = some ob := fun q ob hq => by
  by_cases e : q = p
  · subst e; rw [Heap.upd_same] at hq ⊢; exact hq
  · rw [Heap.upd_ne e] at hq ⊢
    have h1 : q ≠ o := by rintro rfl; rw [ho] at hq; cases hq
    have h2 : q ≠ v := by rintro rfl; rw [hv] at hq; cases hq
    rw [Heap.del_ne h1, Heap.upd_ne h2, Heap.upd_ne h1, hq]
theorem Heap.freeze {h : Heap} {p : Nat} {y : Obj} (hp : h p = none) : HFz (fun q => q = p) (h.upd p y) h :=
  HFz.back (fun q hq => by rw [hq]; exact hp) fun q hq => Heap.upd_ne (by rintro rfl; exact hq hp)
theorem Fin.lst {h : Heap} {p n : Nat} {cs : List FV} {ty es : Nat} {ro ar : Bool} {K : AV → Heap → Prop} (hp : h p = none) (hk : K (.d (.lst n cs)) h) : Fin (h.upd p ⟨cs, ty, es, ro, ar⟩) K (.d (.ref p 0 n)) :=
  Fin.fz (fun q => q = p) (.d (.lst n cs)) h (.d (.ref0 rfl Heap.upd_same (.refl _ _ _))) (Heap.freeze hp) hk

/-- What is returned may be frozen. -/
theorem C.fz {P : Program} {T : Nat → Prop} {f : FuncId} {args : List AV} {h : Heap} {K K' : AV → Heap → Prop} (hc : C P T f args h K) (hk : ∀ r h', K r h' → Fin h' K' r) : C P T f args h K' :=
  ⟨hc.1, fun N Z m w vals r hs ha => (hc.2 N Z m w vals r hs ha).mono fun _ _ ⟨v, r1, h1, N1, Z1, m1, e1, e2, e3, e4, e5, e6⟩ => by
    obtain ⟨F, q', h', hf, hl, hK⟩ := (hk _ _ e2).get
    obtain ⟨Z2, m2, g1, g2, g3, g4, g5, g6⟩ := e4.fz hl
    exact ⟨v, q', h', N1, Z2, m2, e1, hK, hf.clean e3, g1, AFz.va g2 g3 g6 (fun _ _ h => h) hf e5, e6.fz g2 g3 g4 g5⟩⟩

theorem notMem {x : Nat} {l : List Nat} (h : List.elem x l = false) : ¬ x ∈ l := by
  intro hm
  rw [List.elem_eq_true_of_mem hm] at h; cases h

theorem HFz.refl {F : Nat → Prop} {h : Heap} (hF : ∀ o, F o → h o = none) : HFz F h h := HFz.sub fun o ob ho => ⟨fun e => (by rw [hF o e] at ho; cases ho), ho⟩
/-- nil, handed on as an empty list. -/
theorem C.nils {P : Program} {T : Nat → Prop} {f : FuncId} (pre post : List AV) {h : Heap} {K : AV → Heap → Prop} (hc : C P T f (pre ++ .d (.lst 0 []) :: post) h K) : C P T f (pre ++ .d .nils :: post) h K := by
  refine C.pre_fz (fun _ => False) (by simp) (fun i x y hx hy => ?_) (HFz.refl fun _ e => e.elim) hc
  rcases Nat.lt_trichotomy i pre.length with hi | hi | hi
  · rw [List.getElem?_append_left hi] at hx hy; rw [hx] at hy; cases hy; exact .refl _
  · subst hi; simp at hx hy; subst hx hy; exact .d .nilL
  · rw [List.getElem?_append_right (by omega)] at hx hy
    obtain ⟨k, hk⟩ : ∃ k, i - pre.length = k + 1 := ⟨i - pre.length - 1, by omega⟩
    rw [hk] at hx hy; simp at hx hy; rw [hx] at hy; cases hy; exact .refl _

/-- A new slice of cells of its own. -/
def Own (h : Heap) (n : Nat) (cs : List FV) (ty es : Nat) : AV → Heap → Prop := fun r h' => ∃ p, h p = none ∧ r = .d (.ref p 0 n) ∧ h' = h.upd p ⟨cs, ty, es, false, true⟩
theorem Own.mk {h : Heap} {n : Nat} {cs : List FV} {ty es : Nat} {p : Nat} (hp : h p = none) : Own h n cs ty es (.d (.ref p 0 n)) (h.upd p ⟨cs, ty, es, false, true⟩) := ⟨p, hp, rfl, rfl⟩
theorem C.own {P : Program} {T : Nat → Prop} {f : FuncId} {args : List AV} {h : Heap} {n : Nat} {cs : List FV} {ty es : Nat} {K : AV → Heap → Prop} (hc : C P T f args h (Own h n cs ty es))
    (hk : ∀ p, h p = none → K (.d (.ref p 0 n)) (h.upd p ⟨cs, ty, es, false, true⟩)) : C P T f args h K :=
  hc.mono (fun _ h => h) fun r h' ⟨p, h1, h2, h3⟩ => by rw [h2, h3]; exact hk p h1
theorem C.own_lst {P : Program} {T : Nat → Prop} {f : FuncId} {args : List AV} {h : Heap} {n : Nat} {cs : List FV} {ty es : Nat} {K : AV → Heap → Prop} (hc : C P T f args h (Own h n cs ty es))
    (hk : K (.d (.lst n cs)) h) : C P T f args h K :=
  hc.fz fun r h' ⟨p, h1, h2, h3⟩ => by rw [h2, h3]; exact Fin.lst h1 hk

/-- The last byte of a number. -/
def by8 (x : Int) : UInt8 := UInt8.ofNat (x % 256).toNat
theorem wrap_by8 (x : Int) : IntKind.u8.wrap x = ((by8 x).toNat : Int) := by
  have h1 : 0 ≤ x % 256 := Int.emod_nonneg _ (by decide)
  have h2 : x % 256 < 256 := Int.emod_lt_of_pos _ (by decide)
  rw [by8]
  simp [IntKind.wrap, IntKind.bits, IntKind.signed, UInt8.toNat_ofNat']
  omega

/-- A number as eight bytes. -/
def wI (n : Int) : List UInt8 := (List.range 8).map fun i => by8 (n / 2 ^ (8 * i))
theorem wI_length (n : Int) : (wI n).length = 8 := by simp [wI]
theorem wI_take (n : Int) {i : Nat} (h : i < 8) : (u8s (wI n)).take (i + 1) = (u8s (wI n)).take i ++ [.int .u8 ((by8 (n / 2 ^ (8 * i))).toNat : Int)] := by
  rw [List.take_add_one]
  congr 1
  simp [u8s, wI, h]
theorem fdiv_pow (n : Int) {i : Nat} (h : i < 8) : n.fdiv (2 ^ min ((8 : Int) * i).toNat IntKind.i64.bits) = n / 2 ^ (8 * i) := by
  have e : min ((8 : Int) * i).toNat IntKind.i64.bits = 8 * i := by simp [IntKind.bits]; omega
  rw [e, Int.fdiv_eq_ediv_of_nonneg]
  exact Int.le_of_lt (Int.pow_pos (by decide))

/-- The number of eight bytes, as it is read: byte by byte. -/
def rdA (bs : List UInt8) : Nat → Int
  | 0 => 0
  | i + 1 => bitsI .i64 .or (rdA bs i) (IntKind.i64.wrap (((bs[i]?).getD 0).toNat * 2 ^ (8 * i)))
def rdI (bs : List UInt8) : Int := rdA bs 8

theorem min_bits {i : Nat} (h : i < 8) : min ((8 : Int) * i).toNat IntKind.i64.bits = 8 * i := by simp [IntKind.bits]; omega
theorem u8s_get (bs : List UInt8) (i : Nat) (h : i < bs.length) : ((u8s bs).drop i).take 1 = [.int .u8 (((bs[i]?).getD 0).toNat : Int)] := by
  rw [List.take_one, List.head?_drop]
  simp [u8s, h]

theorem u8s_append (a b : List UInt8) : u8s (a ++ b) = u8s a ++ u8s b := by simp [u8s]
theorem u8s_length (a : List UInt8) : (u8s a).length = a.length := by simp [u8s]
theorem u8s_nil : u8s [] = [] := rfl
theorem u8s_cons (a : UInt8) (b : List UInt8) : u8s (a :: b) = .int .u8 (a.toNat : Int) :: u8s b := rfl

/-! Slices that grow. -/
theorem AccOK.none_ {h : Heap} : AccOK h none 0 [] := ⟨by simp, fun _ => ⟨rfl, rfl⟩⟩
theorem AccOK.some_ {h : Heap} {p n : Nat} {cs : List FV} (hp : h p = none) : AccOK h (some p) n cs := ⟨fun o ho => by cases ho; exact hp, by simp⟩
/-- What grew is handed back as it is. -/
theorem C.acc {P : Program} {T : Nat → Prop} {f : FuncId} {args : List AV} {h : Heap} {n : Nat} {cs : List FV} {ty es : Nat} {K : AV → Heap → Prop}
    (hc : C P T f args h fun r h' => ∃ c, AccOK h c n cs ∧ r = .d (.acc c n) ∧ h' = accH h c ⟨cs, ty, es, false, true⟩) (hk : K (.d (.lst n cs)) h) : C P T f args h K :=
  hc.fz fun r h' ⟨c, h1, h2, h3⟩ => by rw [h2, h3]; exact Fin.acc h1 hk

theorem accH_none {h : Heap} {c : Option Nat} {x : Obj} {q : Nat} (e : accH h c x q = none) : h q = none ∧ c ≠ some q := by
  cases c with
  | none => exact ⟨e, by simp⟩
  | some o => obtain ⟨h1, h2⟩ := Heap.upd_none e; exact ⟨h2, fun e => h1 (by cases e; rfl)⟩
theorem accH_get {h : Heap} {c : Option Nat} {n : Nat} {cs : List FV} {x y : Obj} {q : Nat} (ok : AccOK h c n cs) (e : h q = some y) : accH h c x q = some y := by
  cases c with
  | none => exact e
  | some o => exact (Heap.upd_ne (by rintro rfl; rw [ok.fresh q rfl] at e; cases e)).trans e
theorem accH_upd {h : Heap} {c : Option Nat} {x y : Obj} {q : Nat} (e : c ≠ some q) : (accH h c x).upd q y = accH (h.upd q y) c x := by
  cases c with
  | none => rfl
  | some o =>
    have hne : q ≠ o := fun h => e (by rw [h])
    funext p; simp only [accH, Heap.upd]
    split <;> split <;> first | rfl | (rename_i a b; exact absurd (a.symm.trans b) hne)

theorem AccOK.dom {h h' : Heap} {c : Option Nat} {n : Nat} {cs : List FV} (ok : AccOK h c n cs) (hd : ∀ o, h o = none → h' o = none) : AccOK h' c n cs := ⟨fun o ho => hd o (ok.fresh o ho), ok.nil⟩
theorem upd_dom {h : Heap} {o : Nat} {x y : Obj} : ∀ p, (h.upd o x) p = none → (h.upd o y) p = none := fun p e => by
  obtain ⟨h1, h2⟩ := Heap.upd_none e
  rw [Heap.upd_ne h1]; exact h2
/-- The cells of one object are weakened. -/
theorem HFz.cell {F : Nat → Prop} {h : Heap} {o : Nat} {cs cs' : List FV} {ty es : Nat} {ro ar : Bool} (hF : ∀ p, F p → h p = none) (ho : ¬ F o) (hl : FzL F (h.upd o ⟨cs, ty, es, ro, ar⟩) cs cs') : HFz F (h.upd o ⟨cs, ty, es, ro, ar⟩) (h.upd o ⟨cs', ty, es, ro, ar⟩) := fun p x hp => by
  by_cases e : p = o
  · subst e; rw [Heap.upd_same] at hp; cases hp
    exact ⟨ho, _, Heap.upd_same, rfl, rfl, rfl, rfl, hl⟩
  · rw [Heap.upd_ne e] at hp
    have hnf : ¬ F p := fun hf => by rw [hF p hf] at hp; cases hp
    exact ⟨hnf, x, (Heap.upd_ne e).trans hp, rfl, rfl, rfl, rfl, .refl _ _ _⟩

theorem over_one {α : Type} (f : α → FV) (l : List α) (i : Nat) (x : α) (h : i < l.length) : Rv.over (l.map f) i [f x] = (l.set i x).map f := by
  simp only [Rv.over, List.length_singleton]
  rw [List.set_eq_take_append_cons_drop, if_pos h]
  simp
theorem get_one {α : Type} (f : α → FV) (l : List α) (i : Nat) (x : α) (h : l[i]? = some x) : ((l.map f).drop i).take 1 = [f x] := by
  have hi := (List.getElem?_eq_some_iff.1 h).1
  rw [List.take_one, List.head?_drop]
  simp [h]

theorem Heap.ne {h : Heap} {o p : Nat} {x : Obj} (ho : h o = some x) (hp : h p = none) : o ≠ p := by rintro rfl; rw [ho] at hp; cases hp
theorem Heap.upd_comm {h : Heap} {o q : Nat} {x y : Obj} (e : q ≠ o) : (h.upd o x).upd q y = (h.upd q y).upd o x := by
  funext p; unfold Heap.upd; split <;> split <;> first | rfl | (rename_i a b; exact absurd (a.symm.trans b) e)
theorem Heap.upd_self {h : Heap} {o : Nat} {x : Obj} (ho : h o = some x) : h.upd o x = h := by
  funext q; unfold Heap.upd; split
  · rename_i e; rw [e, ho]
  · rfl
theorem Heap.keep {h : Heap} {o p : Nat} {x y : Obj} (hp : h p = none) (ho : h o = some x) : (h.upd p y) o = some x := (Heap.upd_ne (Heap.ne ho hp)).trans ho
theorem Heap.sub_upd {h : Heap} {p : Nat} {y : Obj} (hp : h p = none) : ∀ o x, h o = some x → (h.upd p y) o = some x := fun _ _ ho => Heap.keep hp ho
theorem accH_sub {h : Heap} {c : Option Nat} {n : Nat} {cs : List FV} {x : Obj} (ok : AccOK h c n cs) : ∀ o y, h o = some y → accH h c x o = some y := fun _ _ ho => accH_get ok ho

/-- A heap over another one. -/
def Has (h X : Heap) : Prop := ∀ o x, X o = some x → h o = some x
def Heap.over (h X : Heap) : Heap := fun o => match X o with
  | some x => some x
  | none => h o
theorem Has.over_self {h X : Heap} (hx : Has h X) : h.over X = h := by
  funext o; unfold Heap.over; split
  · rename_i e; exact (hx o _ e).symm
  · rfl
theorem Has.of_over {h X : Heap} : Has (h.over X) X := fun o x e => by unfold Heap.over; rw [e]
theorem over_upd {h X : Heap} {o : Nat} {x : Obj} : (h.over X).upd o x = h.over (X.upd o x) := by
  funext q; unfold Heap.over Heap.upd; split <;> rfl
theorem Has.upd {h X : Heap} (hx : Has h X) {o : Nat} {x : Obj} : h.upd o x = h.over (X.upd o x) := by rw [← over_upd, hx.over_self]
theorem over_over {h X Y : Heap} (hd : ∀ o x, X o = some x → ∃ y, Y o = some y) : (h.over X).over Y = h.over Y := by
  funext o; unfold Heap.over
  cases hy : Y o with
  | some y => rfl
  | none =>
    cases hx : X o with
    | none => rfl
    | some x => obtain ⟨y, e⟩ := hd o x hx; rw [hy] at e; cases e

end Go.Proofs.Rv
