/- RvFz: objects that are frozen: what named them is then a list. -/
import Derived.Test.YtjnhijpophmmgaaRvApp
set_option linter.unusedVariables false
set_option linter.unusedSimpArgs false
namespace Go.Proofs.Rv
open Go

/-- The same value, when the objects of 'F' are frozen. -/
inductive Fz (F : Nat → Prop) (h : Heap) : FV → FV → Prop where
  | refl (x : FV) : Fz F h x x
  | ref (o off n : Nat) (cs : List FV) (ob : Obj) (u : Nat → FV) (hF : F o) (ho : h o = some ob) (h0 : off = 0 ∨ 0 < n ∨ cs = [])
      (hu : ∀ (i : Nat) (x : FV), cs[i]? = some x → ob.cells[off + i]? = some (u i)) (hv : ∀ (i : Nat) (x : FV), cs[i]? = some x → Fz F h (u i) x) : Fz F h (.ref o off n) (.lst n cs)
  | ptr (o off : Nat) (cs : List FV) (ob : Obj) (u : Nat → FV) (hF : F o) (ho : h o = some ob)
      (hu : ∀ (i : Nat) (x : FV), cs[off + i]? = some x → ob.cells[off + i]? = some (u i)) (hv : ∀ (i : Nat) (x : FV), cs[off + i]? = some x → Fz F h (u i) x) : Fz F h (.ptr o off) (.fptr cs off)
  | lst (n : Nat) (cs cs' : List FV) (u : Nat → FV) (hu : ∀ (i : Nat) (x : FV), cs'[i]? = some x → cs[i]? = some (u i)) (hv : ∀ (i : Nat) (x : FV), cs'[i]? = some x → Fz F h (u i) x) :
      Fz F h (.lst n cs) (.lst n cs')
  | fn (f : Nat) (cs cs' : List FV) (u : Nat → FV) (hs : cs'.length = cs.length) (hu : ∀ (i : Nat) (x : FV), cs'[i]? = some x → cs[i]? = some (u i)) (hv : ∀ (i : Nat) (x : FV), cs'[i]? = some x → Fz F h (u i) x) :
      Fz F h (.fn f cs) (.fn f cs')
  | nilL : Fz F h .nils (.lst 0 [])
  | nilA : Fz F h .nils (.acc none 0)
  | refA (o n : Nat) : Fz F h (.ref o 0 n) (.acc (some o) n)
  | accN : Fz F h (.acc none 0) (.lst 0 [])
  | accR (o n : Nat) (y : FV) (hv : Fz F h (.ref o 0 n) y) : Fz F h (.acc (some o) n) y

/-- Cell by cell. -/
def FzL (F : Nat → Prop) (h : Heap) (xs ys : List FV) : Prop := ys.length ≤ xs.length ∧ ∀ (i : Nat) (y : FV), ys[i]? = some y → ∃ x, xs[i]? = some x ∧ Fz F h x y

theorem FzL.refl (F : Nat → Prop) (h : Heap) (xs : List FV) : FzL F h xs xs := ⟨Nat.le_refl _, fun _ y hy => ⟨y, hy, .refl y⟩⟩
theorem FzL.nil (F : Nat → Prop) (h : Heap) (xs : List FV) : FzL F h xs [] := ⟨Nat.zero_le _, fun _ y hy => by simp at hy⟩
theorem FzL.cons {F : Nat → Prop} {h : Heap} {x y : FV} {xs ys : List FV} (h1 : Fz F h x y) (h2 : FzL F h xs ys) : FzL F h (x :: xs) (y :: ys) :=
  ⟨by have := h2.1; simp; omega, fun i z hz => by
    cases i with
    | zero => simp at hz; subst hz; exact ⟨x, rfl, h1⟩
    | succ i => exact h2.2 i z (by simpa using hz)⟩
theorem FzL.map {F : Nat → Prop} {h : Heap} {α : Type} {f g : α → FV} : ∀ {l : List α}, (∀ a ∈ l, Fz F h (f a) (g a)) → FzL F h (l.map f) (l.map g)
  | [], _ => .nil _ _ _
  | a :: l, ha => .cons (ha a (List.mem_cons_self ..)) (FzL.map fun b hb => ha b (List.mem_cons_of_mem _ hb))
theorem FzL.append {F : Nat → Prop} {h : Heap} {ys ys' : List FV} (h2 : FzL F h ys ys') : ∀ {xs xs' : List FV}, FzL F h xs xs' → xs.length = xs'.length → FzL F h (xs ++ ys) (xs' ++ ys')
  | [], [], _, _ => h2
  | x :: xs, y :: xs', h1, e => by
    have hx : Fz F h x y := by obtain ⟨z, hz, hf⟩ := h1.2 0 y rfl; simp at hz; subst hz; exact hf
    have h1' : FzL F h xs xs' := ⟨by simp at e; omega, fun i z hz => by obtain ⟨z', a, b⟩ := h1.2 (i + 1) z (by simpa using hz); exact ⟨z', by simpa using a, b⟩⟩
    exact .cons hx (FzL.append h2 h1' (by simpa using e))
  | [], _ :: _, _, e => by simp at e
  | _ :: _, [], _, e => by simp at e

theorem FzL.sel {F : Nat → Prop} {h : Heap} {xs ys : List FV} (hl : FzL F h xs ys) : ∃ u : Nat → FV, (∀ (i : Nat) (x : FV), ys[i]? = some x → xs[i]? = some (u i)) ∧ ∀ (i : Nat) (x : FV), ys[i]? = some x → Fz F h (u i) x := by
  refine ⟨fun i => (xs[i]?).getD .nilp, fun i x hx => ?_, fun i x hx => ?_⟩
  · obtain ⟨y, h1, _⟩ := hl.2 i x hx; simp [h1]
  · obtain ⟨y, h1, h2⟩ := hl.2 i x hx; simpa [h1] using h2

theorem Fz.ref0 {F : Nat → Prop} {h : Heap} {o n : Nat} {cs : List FV} {ob : Obj} (hF : F o) (ho : h o = some ob) (hl : FzL F h ob.cells cs) : Fz F h (.ref o 0 n) (.lst n cs) := by
  obtain ⟨u, h1, h2⟩ := hl.sel
  exact .ref o 0 n cs ob u hF ho (.inl rfl) (fun i x hx => by simpa using h1 i x hx) h2
theorem Fz.refO {F : Nat → Prop} {h : Heap} {o off n : Nat} {cs : List FV} {ob : Obj} (hF : F o) (ho : h o = some ob) (hn : off = 0 ∨ 0 < n ∨ cs = []) (hl : FzL F h (ob.cells.drop off) cs) : Fz F h (.ref o off n) (.lst n cs) := by
  obtain ⟨u, h1, h2⟩ := hl.sel
  exact .ref o off n cs ob u hF ho hn (fun i x hx => by have := h1 i x hx; rwa [List.getElem?_drop] at this) h2
theorem Fz.ptr0 {F : Nat → Prop} {h : Heap} {o : Nat} {cs : List FV} {ob : Obj} (hF : F o) (ho : h o = some ob) (hl : FzL F h ob.cells cs) : Fz F h (.ptr o 0) (.fptr cs 0) := by
  obtain ⟨u, h1, h2⟩ := hl.sel
  exact .ptr o 0 cs ob u hF ho (fun i x hx => by simpa using h1 i x (by simpa using hx)) (fun i x hx => h2 i x (by simpa using hx))
theorem Fz.lst' {F : Nat → Prop} {h : Heap} {n : Nat} {cs cs' : List FV} (hl : FzL F h cs cs') : Fz F h (.lst n cs) (.lst n cs') := by
  obtain ⟨u, h1, h2⟩ := hl.sel
  exact .lst n cs cs' u h1 h2

/-- Heaps. -/
def HFz (F : Nat → Prop) (h h' : Heap) : Prop := ∀ o ob', h' o = some ob' → ¬ F o ∧ ∃ ob, h o = some ob ∧ ob'.ty = ob.ty ∧ ob'.es = ob.es ∧ ob'.ro = ob.ro ∧ ob'.ar = ob.ar ∧ FzL F h ob.cells ob'.cells

theorem HFz.sub {F : Nat → Prop} {h h' : Heap} (hl : ∀ o ob, h' o = some ob → ¬ F o ∧ h o = some ob) : HFz F h h' := fun o ob ho => by
  obtain ⟨h1, h2⟩ := hl o ob ho
  exact ⟨h1, ob, h2, rfl, rfl, rfl, rfl, .refl _ _ _⟩

/-- Values of temporaries. -/
inductive AFz (F : Nat → Prop) (h : Heap) : AV → AV → Prop where
  | refl (x : AV) : AFz F h x x
  | any (x : AV) : AFz F h x .undef
  | tt : AFz F h .tt (.d (.bool true))
  | ff : AFz F h .ff (.d (.bool false))
  | d {x y : FV} (hx : Fz F h x y) : AFz F h (.d x) (.d y)
  | agg (xs ys : List FV) (hs : xs.length = ys.length) (hl : FzL F h xs ys) : AFz F h (.agg xs) (.agg ys)
  | tup (xs ys : List AV) (hs : xs.length = ys.length) (hl : ∀ (i : Nat) (x y : AV), xs[i]? = some x → ys[i]? = some y → AFz F h x y) : AFz F h (.tup xs) (.tup ys)

theorem AV.cleanAll_of : ∀ {xs : List AV}, (∀ (i : Nat) (x : AV), xs[i]? = some x → AV.clean x = true) → AV.cleanAll xs = true
  | [], _ => rfl
  | x :: xs, h => by
    simp only [AV.cleanAll, Bool.and_eq_true]
    exact ⟨h 0 x rfl, AV.cleanAll_of fun i y hy => h (i + 1) y (by simpa using hy)⟩

theorem AFz.clean {F : Nat → Prop} {h : Heap} {x y : AV} (hf : AFz F h x y) : AV.clean x = true → AV.clean y = true := by
  induction hf with
  | refl x => exact id
  | any x => exact fun _ => rfl
  | tt => exact fun _ => rfl
  | ff => exact fun _ => rfl
  | d _ => exact fun _ => rfl
  | agg => exact fun _ => rfl
  | tup xs ys hs _ ih =>
    intro hx
    simp only [AV.clean] at hx ⊢
    refine AV.cleanAll_of fun i y hy => ?_
    have hi : i < xs.length := by rw [hs]; exact (List.getElem?_eq_some_iff.1 hy).1
    exact ih i _ y (List.getElem?_eq_getElem hi) hy (AV.cleanAll_get hx (List.getElem?_eq_getElem hi))

section
variable {P : Program} {N : Nat} {Z : Nat → Prop} {m : Nat → Option Blk} {w : World} {F : Nat → Prop} {h : Heap}

theorem VF.fz (r : RelH N Z m h w) {Z' : Nat → Prop} {m' : Nat → Option Blk} (hZ : ∀ b, Z b → Z' b) (hF : ∀ o b, F o → m o = some b → Z' b.b) (hm : ∀ o, o < N → m' o = m o ∨ m' o = none) {x y : FV} (hf : Fz F h x y) :
    ∀ {v : Value}, VF N Z m w x v → VF N Z' m' w y v := by
  induction hf with
  | refl x => exact fun h => h.mono (Nat.le_refl _) hZ hm (fun _ _ => rfl)
  | ref o off n cs ob u hFo ho h0 hu _ ih =>
    intro v hv
    cases hv; rename_i a cap hoN ha hn
    obtain ⟨b, arr, h1, _, h3, h4, h5, h6, h7, _⟩ := r.obj o ob ho
    obtain ⟨a1, a2, a3⟩ := ha b h1
    have hcs : ∀ (i : Nat) (x : FV), cs[i]? = some x → a = ⟨b.b, off, none⟩ ∧ ∃ v, arr[off + i]? = some v ∧ VF N Z m w (u i) v := by
      intro i x hx
      refine ⟨?_, h7 _ _ (hu i x hx)⟩
      rcases h0 with h | h | h
      · exact a1 (.inr h)
      · exact a1 (.inl (by omega))
      · rw [h] at hx; simp at hx
    refine .lst n cs a cap (fun i => (w.cell? (a.add i)).getD undef) hn (fun hne => ?_) (fun i x hx => ?_) (fun i x hx => ?_)
    · cases cs with
      | nil => exact absurd rfl hne
      | cons c cs => obtain ⟨rfl, _⟩ := hcs 0 c rfl; exact hF o b hFo h1
    · obtain ⟨rfl, v, e1, e2⟩ := hcs i x hx
      have : w.cell? (Addr.add ⟨b.b, off, none⟩ i) = some v := by rw [addr_add]; simp [World.cell?, h4, e1]
      rw [this]; rfl
    · obtain ⟨rfl, v, e1, e2⟩ := hcs i x hx
      have : w.cell? (Addr.add ⟨b.b, off, none⟩ i) = some v := by rw [addr_add]; simp [World.cell?, h4, e1]
      rw [this]; exact ih i x hx e2
  | ptr o off cs ob u hFo ho hu _ ih =>
    intro v hv
    cases hv; rename_i a hoN ha
    obtain ⟨b, arr, h1, _, h3, h4, h5, h6, h7, _⟩ := r.obj o ob ho
    obtain rfl := ha b h1
    have hcs : ∀ (i : Nat) (x : FV), cs[off + i]? = some x → ∃ v, arr[off + i]? = some v ∧ VF N Z m w (u i) v := fun i x hx => h7 _ _ (hu i x hx)
    refine .fptr cs off _ (fun i => (w.cell? (Addr.add ⟨b.b, off, none⟩ i)).getD undef) (fun _ => hF o b hFo h1) (fun i x hx => ?_) (fun i x hx => ?_)
    · obtain ⟨v, e1, e2⟩ := hcs i x hx
      have : w.cell? (Addr.add ⟨b.b, off, none⟩ i) = some v := by rw [addr_add]; simp [World.cell?, h4, e1]
      rw [this]; rfl
    · obtain ⟨v, e1, e2⟩ := hcs i x hx
      have : w.cell? (Addr.add ⟨b.b, off, none⟩ i) = some v := by rw [addr_add]; simp [World.cell?, h4, e1]
      rw [this]; exact ih i x hx e2
  | lst n cs cs' u hu _ ih =>
    intro v hv
    rcases hv.lst_inv with ⟨rfl, rfl, rfl⟩ | ⟨a, cap, u', rfl, hn, hz, hc, hv⟩
    · cases cs' with
      | nil => exact .lst0
      | cons c cs => have := hu 0 c rfl; simp at this
    refine .lst n cs' a cap u' hn (fun hne => hZ _ (hz ?_)) (fun i x hx => hc i _ (hu i x hx)) (fun i x hx => ih i x hx (hv i _ (hu i x hx)))
    rintro rfl
    cases cs' with
    | nil => exact hne rfl
    | cons c cs => have := hu 0 c rfl; simp at this
  | fn f cs cs' u hs hu _ ih =>
    intro v hv
    cases hv; rename_i us h1 h2
    exact .fn f cs' us (by rw [h1, hs]) fun i x v hx hv => ih i x hx (h2 i _ v (hu i x hx) hv)
  | nilL => intro v hv; cases hv; exact .lst0
  | nilA => intro v hv; cases hv; exact .acc0
  | refA o n => intro v hv; exact .acc1 o n v (hv.mono (Nat.le_refl _) hZ hm (fun _ _ => rfl))
  | accN => intro v hv; cases hv; exact .lst0
  | accR o n y _ ih => intro v hv; cases hv; rename_i hv; exact ih hv

/-- **Objects are frozen, or given up.** -/
theorem RelH.fz (r : RelH N Z m h w) {h' : Heap} (hh : HFz F h h') : ∃ Z' m', RelH N Z' m' h' w ∧ (∀ b, Z b → Z' b) ∧ (∀ o, m' o = m o ∨ m' o = none) ∧ (∀ o b, m' o = some b → m o = some b) ∧
    (∀ b, Z' b → Z b ∨ ∃ o bb, m o = some bb ∧ bb.b = b) ∧ ∀ {x y : FV} {v : Value}, Fz F h x y → VF N Z m w x v → VF N Z' m' w y v := by
  let m' : Nat → Option Blk := fun o => if h' o = none then none else m o
  let Z' : Nat → Prop := fun b => Z b ∨ ∃ o bb, F o ∧ m o = some bb ∧ bb.b = b
  have hm : ∀ o, m' o = m o ∨ m' o = none := fun o => by
    simp only [m']
    split
    · exact .inr rfl
    · exact .inl rfl
  have hms : ∀ o b, m' o = some b → m o = some b := fun o b hb => by
    simp only [m'] at hb
    split at hb
    · cases hb
    · exact hb
  have key : ∀ {x y : FV} {v : Value}, Fz F h x y → VF N Z m w x v → VF N Z' m' w y v := fun hf hv =>
    VF.fz r (fun _ h => .inl h) (fun o b ho hb => .inr ⟨o, b, ho, hb, rfl⟩) (fun o _ => hm o) hf hv
  refine ⟨Z', m', ⟨fun o ho => ?_, fun o ob ho => ?_, fun o o' b b' h1 h2 e => r.inj o o' b b' (hms o b h1) (hms o' b' h2) e, ?_⟩, fun _ h => .inl h, hm, hms, ?_, key⟩
  · simp only [m']; rw [if_pos ho]
  · obtain ⟨hnF, ob0, e1, e2, e3, e4, e5, e6⟩ := hh o ob ho
    obtain ⟨b, arr, h1, h2, h3, h4, h5, h6, h7, h8⟩ := r.obj o ob0 e1
    refine ⟨b, arr, ?_, h2, by rw [h3, e3], by rw [h4, e2], h5, Nat.le_trans e6.1 h6, fun i x hx => ?_, ?_⟩
    · simp only [m']; rw [if_neg (by rw [ho]; simp)]; exact h1
    · obtain ⟨y, hy, hf⟩ := e6.2 i x hx
      obtain ⟨v, g1, g2⟩ := h7 i y hy
      exact ⟨v, g1, key hf g2⟩
    · rw [e4, ← h8]
      constructor
      · rintro (h | ⟨o1, b1, f1, m1, e⟩)
        · exact h
        · have := r.inj o1 o b1 b m1 h1 e
          subst this; exact absurd f1 hnF
      · exact .inl
  · rintro b (h | ⟨o, bb, _, h1, rfl⟩)
    · exact r.zlt b h
    · exact (r.lt h1).2
  · rintro b (h | ⟨o, bb, _, h1, h2⟩)
    · exact .inl h
    · exact .inr ⟨o, bb, h1, h2⟩

/-- A slice that grew is frozen. -/
theorem Fz.accL {hb : Heap} {c : Option Nat} {n e es : Nat} {cells : List FV} (ok : AccOK hb c n cells) : Fz (fun o => c = some o) (accH hb c ⟨cells, e, es, false, true⟩) (.acc c n) (.lst n cells) := by
  cases c with
  | none => obtain ⟨rfl, rfl⟩ := ok.nil rfl; exact .accN
  | some o => exact .accR o n _ (.ref0 (ob := ⟨cells, e, es, false, true⟩) rfl Heap.upd_same (.refl _ _ _))
theorem HFz.acc {hb : Heap} {c : Option Nat} {n : Nat} {cells : List FV} {ob : Obj} (ok : AccOK hb c n cells) : HFz (fun o => c = some o) (accH hb c ob) hb := HFz.sub fun o x ho => by
  have hne : ¬ c = some o := fun e => by rw [ok.fresh o e] at ho; cases ho
  refine ⟨hne, ?_⟩
  cases c with
  | none => exact ho
  | some p => exact (Heap.upd_ne (fun e => hne (by rw [e]))).trans ho

theorem Stp.fz_pre {T S : Nat → Prop} {N1 : Nat} {Z1 : Nat → Prop} {m1 : Nat → Option Blk} {w1 : World} {Z' : Nat → Prop} {m' : Nat → Option Blk} (hs : Stp T S N Z' m' w N1 Z1 m1 w1) (hZ : ∀ b, Z b → Z' b)
    (hm : ∀ o, m' o = m o ∨ m' o = none) (hms : ∀ o b, m' o = some b → m o = some b) (hzz : ∀ b, Z' b → Z b ∨ ∃ o bb, m o = some bb ∧ bb.b = b) : Stp T S N Z m w N1 Z1 m1 w1 where
  nn := hs.nn
  zz := fun b h => hs.zz b (hZ b h)
  mm := fun o ho => by
    rcases hs.mm o ho with h | h
    · rw [h]; exact hm o
    · exact .inr h
  mnew := fun o b hb => by
    rcases hs.mnew o b hb with h | ⟨h, h' | ⟨o1, b1, t1, m1, e1⟩⟩
    · exact .inl (hms o b h)
    · exact .inr ⟨h, .inl h'⟩
    · exact .inr ⟨h, .inr ⟨o1, b1, t1, hms o1 b1 m1, e1⟩⟩
  znew := fun b hb => by
    rcases hs.znew b hb with h | ⟨o, bb, h, e⟩ | h
    · rcases hzz b h with h | h
      · exact .inl h
      · exact .inr (.inl h)
    · exact .inr (.inl ⟨o, bb, hms o bb h, e⟩)
    · exact .inr (.inr h)
  sz := hs.sz
  fr := fun b hb hc => hs.fr b hb (hc.imp (hZ b) fun ⟨x, y⟩ => ⟨fun o bb ho hm' => x o bb ho (hms o bb hm'), y⟩)
  os := hs.os
  tape := hs.tape
  output := hs.output

theorem Stp.fz {T S : Nat → Prop} {N0 : Nat} {Z0 : Nat → Prop} {m0 : Nat → Option Blk} {w0 : World} (hs : Stp T S N0 Z0 m0 w0 N Z m w) {Z' : Nat → Prop} {m' : Nat → Option Blk} (hZ : ∀ b, Z b → Z' b)
    (hm : ∀ o, m' o = m o ∨ m' o = none) (hms : ∀ o b, m' o = some b → m o = some b) (hzz : ∀ b, Z' b → Z b ∨ ∃ o bb, m o = some bb ∧ bb.b = b) : Stp T S N0 Z0 m0 w0 N Z' m' w where
  nn := hs.nn
  zz := fun b h => hZ b (hs.zz b h)
  mm := fun o ho => by
    rcases hm o with h | h
    · rw [h]; exact hs.mm o ho
    · exact .inr h
  mnew := fun o b hb => hs.mnew o b (hms o b hb)
  znew := fun b hb => by
    rcases hzz b hb with h | ⟨o, bb, h, rfl⟩
    · exact hs.znew b h
    · rcases hs.mnew o bb h with h | ⟨_, h | ⟨o1, b1, _, m1, e1⟩⟩
      · exact .inr (.inl ⟨o, bb, h, rfl⟩)
      · exact .inr (.inr h)
      · exact .inr (.inl ⟨o1, b1, m1, e1⟩)
  sz := hs.sz
  fr := hs.fr
  os := hs.os
  tape := hs.tape
  output := hs.output

theorem AFz.va {Z' : Nat → Prop} {m' : Nat → Option Blk} {ml ml' : Nat → Option Nat} (hZ : ∀ b, Z b → Z' b) (hm : ∀ o, m' o = m o ∨ m' o = none) (key : ∀ {x y : FV} {v : Value}, Fz F h x y → VF N Z m w x v → VF N Z' m' w y v)
    (hml : ∀ t b, ml' t = some b → ml t = some b) {x y : AV} (hf : AFz F h x y) : ∀ {v : Value}, VA N Z m ml w x v → VA N Z' m' ml' w y v := by
  induction hf with
  | refl x => exact fun h => h.mono (Nat.le_refl _) hZ (fun o _ => hm o) (fun _ _ => rfl) hml
  | any x => exact fun _ => .undef _
  | tt => intro v hv; cases hv; exact .d (.bool _)
  | ff => intro v hv; cases hv; exact .d (.bool _)
  | d hx => intro v hv; cases hv; rename_i hv; exact .d (key hx hv)
  | agg xs ys hs hl =>
    intro v hv
    cases hv; rename_i vs h1 h2
    refine .agg ys vs (by omega) fun i y v hy hv => ?_
    obtain ⟨x, hx, hf⟩ := hl.2 i y hy
    exact key hf (h2 i x v hx hv)
  | tup xs ys hs _ ih =>
    intro v hv
    cases hv; rename_i vs h1 h2
    refine .tup ys vs (by omega) fun i y v hy hv => ?_
    have hi : i < xs.length := by rw [hs]; exact (List.getElem?_eq_some_iff.1 hy).1
    exact ih i _ y (List.getElem?_eq_getElem hi) hy (h2 i _ v (List.getElem?_eq_getElem hi) hv)

/-- Is it a call that is deferred? -/
@[simp] def AV.isD : AV → Bool
  | .dfr _ _ => true
  | _ => false

/-- A weaker state: less is known of temporaries, slots and objects are given up, objects of 'F' are frozen. -/
structure LeF (F : Nat → Prop) (s s' : St) : Prop where
  len : s.tm.length = s'.tm.length
  tm : ∀ (i : Nat) (x y : AV), s.tm[i]? = some x → s'.tm[i]? = some y → AFz F s.h x y
  loc : ∀ t cs, lkL s'.loc t = some cs → ∃ cs0, lkL s.loc t = some cs0 ∧ cs0.length = cs.length ∧ FzL F s.h cs0 cs
  h : HFz F s.h s'.h
  df : ∀ (i : Nat) (x : AV), AV.isD x = true → s.tm[i]? = some x → s'.tm[i]? = some x

theorem RR.le {B0 : Nat} {ml : Nat → Option Nat} {s s' : St} {a : Act} {F : Nat → Prop} (r : RR B0 N Z m ml s a w) (hle : LeF F s s') : ∃ Z' m' ml', RR B0 N Z' m' ml' s' a w ∧ (∀ b, Z b → Z' b) ∧ (∀ o, m' o = m o ∨ m' o = none) ∧ (∀ o b, m' o = some b → m o = some b) ∧
    (∀ b, Z' b → Z b ∨ ∃ o bb, m o = some bb ∧ bb.b = b) ∧ (s'.loc = s.loc → ∀ t, ml' t = ml t) ∧ ∀ {x y : FV} {v : Value}, Fz F s.h x y → VF N Z m w x v → VF N Z' m' w y v := by
  obtain ⟨Z', m', rH, hZ, hm, hms, hzz, key⟩ := r.H.fz hle.h
  let ml' : Nat → Option Nat := fun t => if lkL s'.loc t = none then none else ml t
  have hls : ∀ t b, ml' t = some b → ml t = some b ∧ lkL s'.loc t ≠ none := fun t b hb => by
    simp only [ml'] at hb
    split at hb
    · cases hb
    · rename_i h; exact ⟨hb, h⟩
  refine ⟨Z', m', ml', ⟨rH, ⟨fun t cs hc => ?_, fun t b ht => ?_, fun t t' b h1 h2 => r.L.inj t t' b (hls t b h1).1 (hls t' b h2).1⟩, ⟨?_, ?_, ?_⟩, r.B⟩, hZ, hm, hms, hzz, fun e t => ?_, key⟩
  · obtain ⟨cs0, hc0, hlen, hfz⟩ := hle.loc t cs hc
    obtain ⟨b, arr, TT, h1, h2, h3, h4⟩ := r.L.sl t cs0 hc0
    refine ⟨b, arr, TT, ?_, h2, by rw [h3, hlen], fun i x hx => ?_⟩
    · simp only [ml']; rw [if_neg (by rw [hc]; simp)]; exact h1
    · obtain ⟨y, hy, hf⟩ := hfz.2 i x hx
      obtain ⟨v, e1, e2⟩ := h4 i y hy; exact ⟨v, e1, key hf e2⟩
  · obtain ⟨h1, hne⟩ := hls t b ht
    obtain ⟨_, d2, d3, d4, d5⟩ := r.L.dom t b h1
    refine ⟨?_, d2, d3, fun hz => ?_, fun o bb ho => d5 o bb (hms o bb ho)⟩
    · cases hq : lkL s'.loc t with
      | none => exact absurd hq hne
      | some cs => exact ⟨cs, rfl⟩
    · rcases hzz b hz with h | ⟨o, bb, h2, h3⟩
      · exact d4 h
      · exact d5 o bb h2 h3
  · rw [r.T.size]; exact hle.len
  · intro i y v hy hv
    have hi : i < s.tm.length := by rw [hle.len]; exact (List.getElem?_eq_some_iff.1 hy).1
    exact AFz.va hZ hm key (fun t b hb => (hls t b hb).1) (hle.tm i _ y (List.getElem?_eq_getElem hi) hy) (r.T.get i _ v (List.getElem?_eq_getElem hi) hv)
  · intro i d hd
    obtain ⟨f, xs, vs, e1, e2, e3, e4⟩ := r.T.dfr i d hd
    exact ⟨f, xs, vs, hle.df _ _ rfl e1, e2, e3, fun j x v hx hv => AFz.va hZ hm key (fun t b hb => (hls t b hb).1) (.refl x) (e4 j x v hx hv)⟩
  · simp only [ml', e]
    split
    · rename_i h0
      cases hq : ml t with
      | none => rfl
      | some b => obtain ⟨⟨cs, hc⟩, _⟩ := r.L.dom t b hq; rw [h0] at hc; cases hc
    · rfl

/-- **What is handed to a call may be frozen ahead of it.** -/
theorem C.pre_fz {T : Nat → Prop} {f : Nat} {args args' : List AV} {h' : Heap} {K : AV → Heap → Prop} (F : Nat → Prop) (hs : args.length = args'.length) (ha : ∀ (i : Nat) (x y : AV), args[i]? = some x → args'[i]? = some y → AFz F h x y) (hl : HFz F h h')
    (hc : C P T f args' h' K) : C P T f args h K := by
  refine ⟨hc.1, fun N Z m w vals r hsz hv => ?_⟩
  obtain ⟨Z2, m2, g1, g2, g3, g4, g5, g6⟩ := r.fz hl
  refine (hc.2 N Z2 m2 w vals g1 (by omega) fun i y v hy hu => ?_).mono ?_
  · have hi : i < args.length := by rw [hs]; exact (List.getElem?_eq_some_iff.1 hy).1
    exact AFz.va g2 g3 g6 (fun _ _ h => h) (ha i _ y (List.getElem?_eq_getElem hi) hy) (hv i _ v (List.getElem?_eq_getElem hi) hu)
  · rintro e w' ⟨v, q, h1, N1, Z1, m1, e1, e2, e3, e4, e5, e6⟩
    exact ⟨v, q, h1, N1, Z1, m1, e1, e2, e3, e4, e5, e6.fz_pre g2 g3 g4 g5⟩

end

end Go.Proofs.Rv
