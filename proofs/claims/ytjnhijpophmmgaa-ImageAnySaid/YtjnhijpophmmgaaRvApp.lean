/- RvApp: append. -/
import Derived.Test.YtjnhijpophmmgaaRvMem2
import Derived.KernelRfl
import Derived.Maps.AppendAt
import Derived.Lib.AppendZerosOnto
set_option linter.unusedVariables false
set_option linter.unusedSimpArgs false
namespace Go.Proofs.Rv
open Go

section
variable {P : Program} {B0 N : Nat} {Z : Nat → Prop} {m : Nat → Option Blk} {ml : Nat → Option Nat} {w w' : World} {s : St} {a : Act}

/-- An object gives way to a new one, in its own block or in a new one. -/
theorem RR.growObj (r : RR B0 N Z m ml s a w) {o : Nat} {ob : Obj} (ho : s.h o = some ob) (hro : ob.ro = false) {b : Blk} (hb : m o = some b) {g : Nat} (hg : g = b.b ∨ g = w.heap.size) (hgr : w.grownBy w' (some b.b))
    {cells : List FV} {arr : Array Value} {ty : TypeId} {es : Nat} {ar : Bool} (hw' : w'.heap[g]? = some (.cells arr ty (0, 0))) (hlen : cells.length ≤ arr.size)
    (hrow : ∀ (i : Nat) (x : FV), cells[i]? = some x → ∃ v, arr[i]? = some v ∧ VF N Z m w x v) :
    s.h N = none ∧ ∃ m', m' N = some ⟨g, arr.size, es⟩ ∧ RR B0 (N + 1) Z m' ml { s with h := (s.h.del o).upd N ⟨cells, ty, es, false, ar⟩ } a w' ∧ ∀ T S : Nat → Prop, T o → Stp T S N Z m w (N + 1) Z m' w' := by
  obtain ⟨b', arr', h1, h2, h3, h4, h5, h6, h7, h8⟩ := r.H.obj o ob ho
  rw [hb] at h1; cases h1
  have hz : ¬ Z b.b := by rw [h8, hro]; simp
  have hN : s.h N = none := by
    cases h : s.h N with
    | none => rfl
    | some ob => obtain ⟨b, arr, _, h2, _⟩ := r.H.obj N ob h; omega
  have hNo : N ≠ o := by omega
  let m' : Nat → Option Blk := fun p => if p = N then some ⟨g, arr.size, es⟩ else if p = o then none else m p
  have hm' : ∀ p, p < N → m' p = m p ∨ m' p = none := fun p hp => by
    simp only [m']; rw [if_neg (by omega)]
    by_cases e : p = o
    · right; rw [if_pos e]
    · left; rw [if_neg e]
  have hmN : ∀ p q, m' p = some q → p ≠ N → p ≠ o ∧ m p = some q := fun p q hq hp => by
    simp only [m'] at hq; rw [if_neg hp] at hq
    split at hq
    · cases hq
    · rename_i e; exact ⟨e, hq⟩
  have old : ∀ k, k < w.heap.size → k ≠ b.b → w'.heap[k]? = w.heap[k]? := fun k hk hne => hgr.block k hk (by simpa using hne)
  have hw : ∀ c, Z c → w'.heap[c]? = w.heap[c]? := fun c hc => old c (r.H.zlt c hc) (by rintro rfl; exact hz hc)
  have hmono : ∀ {x : FV} {v : Value}, VF N Z m w x v → VF (N + 1) Z m' w' x v := fun h => h.mono (by omega) (fun _ h => h) hm' hw
  have hgne : ∀ p q, m p = some q → p ≠ o → q.b ≠ g := fun p q hq hp e => by
    rcases hg with hg | hg
    · exact hp (r.H.inj p o q b hq hb (by omega))
    · have := (r.H.lt hq).2; omega
  have hgz : ¬ Z g := fun h => by
    rcases hg with hg | hg
    · exact hz (hg ▸ h)
    · have := r.H.zlt g h; omega
  refine ⟨hN, m', if_pos rfl, ⟨⟨fun p hp => ?_, fun p op hp => ?_, fun p p' q q' h1 h2 e => ?_, fun c hc => Nat.lt_of_lt_of_le (r.H.zlt c hc) hgr.size⟩, ⟨fun t cs hc => ?_, fun t c ht => ?_, r.L.inj⟩, ?_, Nat.le_trans r.B hgr.size⟩, fun T S hT => ?_⟩
  · simp only [Heap.upd, Heap.del] at hp
    split at hp
    · cases hp
    · rename_i hne
      simp only [m']; rw [if_neg hne]
      split at hp
      · rename_i e; rw [if_pos e]
      · rename_i e; rw [if_neg e]; exact r.H.non p hp
  · simp only [Heap.upd, Heap.del] at hp
    split at hp
    · rename_i e; subst e; cases hp
      refine ⟨_, arr, if_pos rfl, by omega, rfl, hw', rfl, hlen, fun i x hx => ?_, ?_⟩
      · obtain ⟨v, e1, e2⟩ := hrow i x hx; exact ⟨v, e1, hmono e2⟩
      · constructor
        · intro h; exact absurd h hgz
        · intro h; cases h
    · rename_i hne
      split at hp
      · cases hp
      · rename_i hno
        obtain ⟨c, arr2, g1, g2, g3, g4, g5, g6, g7, g8⟩ := r.H.obj p op hp
        have hcb : c.b ≠ b.b := fun e => hno (r.H.inj p o c b g1 hb e)
        refine ⟨c, arr2, by simp only [m']; rw [if_neg hne, if_neg hno]; exact g1, by omega, g3, by rw [old _ (heap_lt g4) hcb]; exact g4, g5, g6, fun i x hx => ?_, g8⟩
        obtain ⟨v, e1, e2⟩ := g7 i x hx; exact ⟨v, e1, hmono e2⟩
  · by_cases e1 : p = N
    · by_cases e2 : p' = N
      · rw [e1, e2]
      · obtain ⟨i1, i2⟩ := hmN p' q' h2 e2
        subst e1
        simp only [m'] at h1; simp at h1; subst h1
        exact absurd e.symm (hgne p' q' i2 i1)
    · obtain ⟨i1, i2⟩ := hmN p q h1 e1
      by_cases e2 : p' = N
      · subst e2
        simp only [m'] at h2; simp at h2; subst h2
        exact absurd e (hgne p q i2 i1)
      · obtain ⟨j1, j2⟩ := hmN p' q' h2 e2
        exact r.H.inj p p' q q' i2 j2 e
  · obtain ⟨c, arr2, T, g1, g2, g3, g4⟩ := r.L.sl t cs hc
    have hcb : c ≠ b.b := fun e => (r.L.dom t c g1).2.2.2.2 o b hb e.symm
    refine ⟨c, arr2, T, g1, by rw [old _ (heap_lt g2) hcb]; exact g2, g3, fun i x hx => ?_⟩
    obtain ⟨v, e1, e2⟩ := g4 i x hx; exact ⟨v, e1, hmono e2⟩
  · obtain ⟨g1, g2, g3, g4, g5⟩ := r.L.dom t c ht
    refine ⟨g1, g2, Nat.lt_of_lt_of_le g3 hgr.size, g4, fun p q hq e => ?_⟩
    by_cases hp : p = N
    · subst hp
      simp only [m'] at hq; simp at hq; subst hq
      rcases hg with hg | hg
      · exact g5 o b hb (by simp only at e; omega)
      · simp only at e; omega
    · obtain ⟨_, i2⟩ := hmN p q hq hp
      exact g5 p q i2 e
  · exact r.T.mono (by omega) (fun _ h => h) hm' hw (fun _ _ h => h)
  · refine ⟨by omega, fun _ h => h, hm', fun p q hq => ?_, fun _ h => .inl h, hgr.size, fun c hc hcond => old c hc ?_, hgr.os, hgr.tape, hgr.output⟩
    · by_cases hp : p = N
      · subst hp
        simp only [m'] at hq; simp at hq; subst hq
        refine .inr ⟨Nat.le_refl _, ?_⟩
        rcases hg with hg | hg
        · exact .inr ⟨o, b, hT, hb, hg.symm⟩
        · exact .inl (by simp only; omega)
      · exact .inl (hmN p q hq hp).2
    · rintro rfl
      rcases hcond with hcond | ⟨hcond, _⟩
      · exact hz hcond
      · exact hcond o b hT hb rfl

end

def srcK0 (s : St) (size : Nat) (y : AV) (k : Nat → List FV → Prop) : Prop :=
  match y with
  | .d .nils => k 0 []
  | .d (.lst n cs) => Rq (cs.length = n * size) (k n cs)
  | .d (.ref o off n) => ObjK s.h o fun ob => SubO ob.cells off (n * size) fun xs => k n xs
  | _ => False

/-- The elements that are appended: how many, their cells. -/
def srcK (s : St) (size : Nat) (y : AV) (k : Nat → List FV → Prop) : Prop :=
  match s with
  | ⟨tm, loc, hp⟩ =>
    match y with
    | .d .nils => k 0 []
    | .d (.lst n cs) => Rq (cs.length = n * size) (k n cs)
    | .d (.ref o off n) => ObjK hp o fun ob => match ob with | ⟨cells, _, _, _, _⟩ => SubO cells off (n * size) fun xs => k n xs
    | _ => False

theorem srcK_old (s : St) (size : Nat) (y : AV) (k : Nat → List FV → Prop) (hx_ : srcK s size y k) : srcK0 s size y k := by
  have e : (srcK s size y k) = (srcK0 s size y k) := by cases s; kernel_rfl
  exact e ▸ hx_
theorem srcK_new (s : St) (size : Nat) (y : AV) (k : Nat → List FV → Prop) (hx_ : srcK0 s size y k) : srcK s size y k := by
  have e : (srcK0 s size y k) = (srcK s size y k) := by cases s; kernel_rfl
  exact e ▸ hx_

/-- Appended to nil: nil, if there is nothing; else a new object. -/
structure AppN (n : Nat) (p : Prop) (q : Prop) : Prop where intro ::
  out : (n = 0 → p) ∧ (0 < n → q)
theorem AppN.mk {n : Nat} {p q : Prop} (h : n = 0 → p) (h' : 0 < n → q) : AppN n p q := by refine .intro ?_; exact ⟨h, h'⟩
theorem AppN.get {n : Nat} {p q : Prop} (h : AppN n p q) : (n = 0 → p) ∧ (0 < n → q) := h.out

/-- For any number that no object has. -/
structure NewK (h : Heap) (k : Nat → Prop) : Prop where intro ::
  out : ∀ o, h o = none → k o
theorem NewK.mk {h : Heap} {k : Nat → Prop} (e : ∀ o, h o = none → k o) : NewK h k := by refine .intro ?_; exact e
theorem NewK.get {h : Heap} {k : Nat → Prop} (e : NewK h k) : ∀ o, h o = none → k o := e.out

/-- May this object be written to? -/
structure OKW (T : Nat → Prop) (h0 : Heap) (o : Nat) : Prop where intro ::
  out : T o ∨ h0 o = none
theorem OKW.mk {T : Nat → Prop} {h0 : Heap} {o : Nat} (h : T o ∨ h0 o = none) : OKW T h0 o := by refine .intro ?_; exact h
theorem OKW.get {T : Nat → Prop} {h0 : Heap} {o : Nat} (h : OKW T h0 o) : T o ∨ h0 o = none := h.out

/-- What an append asks of the object that it is made to. -/
structure AppOK (T : Nat → Prop) (h0 : Heap) (o : Nat) (ob : Obj) (e n size bytes mm : Nat) : Prop where
  ro : ob.ro = false
  ty : ob.ty = e
  es : ob.es = size
  len : ob.cells.length = n * size
  may : T o ∨ h0 o = none
  room : (n + mm) * bytes ≤ 140737488355328

/-- A heap with one object more, if there is one. -/
def accH (h : Heap) (c : Option Nat) (ob : Obj) : Heap := match c with
  | none => h
  | some o => h.upd o ob

/-- A slice that grows: nil, or an object of its own. -/
structure AccOK (h : Heap) (c : Option Nat) (n : Nat) (cells : List FV) : Prop where
  fresh : ∀ o, c = some o → h o = none
  nil : c = none → n = 0 ∧ cells = []

structure AccX (T : Nat → Prop) (h0 : Heap) (pd : Nat → Prop) (e es bytes : Nat) (h : Heap) (c : Option Nat) (n mm : Nat) (news : List FV) (K : AV → Heap → Prop) : Prop where intro ::
  out : ∃ hb cells, h = accH hb c ⟨cells, e, es, false, true⟩ ∧ AccOK hb c n cells ∧ (∀ o, c = some o → T o ∨ h0 o = none) ∧ (∀ o, c = some o → ¬ pd o) ∧ cells.length = n * es ∧ (n + mm) * bytes ≤ 140737488355328 ∧
    ∀ c', AccOK hb c' (n + mm) (cells ++ news) → Nm (cells ++ news) fun cs => K (.d (.acc c' (n + mm))) (accH hb c' ⟨cs, e, es, false, true⟩)
theorem AccX.mk {T : Nat → Prop} {h0 : Heap} {pd : Nat → Prop} {e es bytes : Nat} {h : Heap} {c : Option Nat} {n mm : Nat} {news : List FV} {K : AV → Heap → Prop} (hb : Heap) (cells : List FV) (he : h = accH hb c ⟨cells, e, es, false, true⟩)
    (ok : AccOK hb c n cells) (hw : ∀ o, c = some o → T o ∨ h0 o = none) (hp : ∀ o, c = some o → ¬ pd o) (hl : cells.length = n * es) (hbd : (n + mm) * bytes ≤ 140737488355328)
    (hk : ∀ c', AccOK hb c' (n + mm) (cells ++ news) → Nm (cells ++ news) fun cs => K (.d (.acc c' (n + mm))) (accH hb c' ⟨cs, e, es, false, true⟩)) : AccX T h0 pd e es bytes h c n mm news K := by
  refine .intro ?_; exact ⟨hb, cells, he, ok, hw, hp, hl, hbd, hk⟩

theorem Heap.upd_same {h : Heap} {o : Nat} {x : Obj} : (h.upd o x) o = some x := by simp [Heap.upd]
theorem Heap.upd_ne {h : Heap} {o q : Nat} {x : Obj} (e : q ≠ o) : (h.upd o x) q = h q := by simp [Heap.upd, e]
theorem Heap.del_ne {h : Heap} {o q : Nat} (e : q ≠ o) : (h.del o) q = h q := by simp [Heap.del, e]
theorem Heap.upd_none {h : Heap} {o q : Nat} {x : Obj} (e : (h.upd o x) q = none) : q ≠ o ∧ h q = none := by
  unfold Heap.upd at e; split at e
  · cases e
  · rename_i hne; exact ⟨hne, e⟩
/-- An object given up and made anew under another number: the same heap. -/
theorem Heap.renew {h : Heap} {o p : Nat} {x y : Obj} (ho : h o = none) : ((h.upd o x).del o).upd p y = h.upd p y := by
  funext q
  by_cases e : q = p
  · subst e; simp [Heap.upd]
  · rw [Heap.upd_ne e, Heap.upd_ne e]
    by_cases e2 : q = o
    · subst e2; simp [Heap.del, ho]
    · rw [Heap.del_ne e2, Heap.upd_ne e2]

def appB0 (L : LE) (T : Nat → Prop) (h0 : Heap) (pd : Nat → Prop) (s : St) (t : Nat) (x y : AV) (K : AV → Heap → Prop) : Prop :=
  match L t with
  | none => False
  | some l => match l.d with
    | .slc e => match L e with
      | none => False
      | some le => match Nat.beq le.bytes 0, Nat.beq le.size 0 with
        | false, false => srcK s le.size y fun mm news => match x with
          | .d .nils => Rq (mm * le.bytes ≤ 140737488355328) (AppN mm (K (.d .nils) s.h) (NewK s.h fun o => K (.d (.ref o 0 mm)) (s.h.upd o ⟨news, e, le.size, false, true⟩)))
          | .d (.ref o off n) => match Nat.beq off 0 with
            | false => False
            | true => ObjK s.h o fun ob => Rq (AppOK T h0 o ob e n le.size le.bytes mm ∧ ¬ pd o)
                (NewK s.h fun p => Nm (ob.cells ++ news) fun cells => K (.d (.ref p 0 (n + mm))) ((s.h.del o).upd p ⟨cells, e, le.size, false, true⟩))
          | _ => False
        | _, _ => False
    | _ => False

def appB (L : LE) (T : Nat → Prop) (h0 : Heap) (pd : Nat → Prop) (s : St) (t : Nat) (x y : AV) (K : AV → Heap → Prop) : Prop :=
  match s with
  | ⟨tm, loc, hp⟩ =>
    match L t with
    | none => False
    | some ⟨lsz, lby, lz, ld, leq⟩ => match ld with
      | .slc e => match L e with
        | none => False
        | some ⟨esz, eby, ez, ed, eeq⟩ => match Nat.beq eby 0, Nat.beq esz 0 with
          | false, false => srcK ⟨tm, loc, hp⟩ esz y fun mm news => match x with
            | .d .nils => Rq (mm * eby ≤ 140737488355328) (AppN mm (K (.d .nils) hp) (NewK hp fun o => K (.d (.ref o 0 mm)) (hp.upd o ⟨news, e, esz, false, true⟩)))
            | .d (.ref o off n) => match Nat.beq off 0 with
              | false => False
              | true => ObjK hp o fun ob => match ob with
                | ⟨cs, oty, oes, oro, oar⟩ => Rq (AppOK T h0 o ⟨cs, oty, oes, oro, oar⟩ e n esz eby mm ∧ ¬ pd o)
                  (NewK hp fun p => Nm (cs ++ news) fun cells => K (.d (.ref p 0 (n + mm))) ((hp.del o).upd p ⟨cells, e, esz, false, true⟩))
            | _ => False
          | _, _ => False
      | _ => False

theorem appB_old (L : LE) (T : Nat → Prop) (h0 : Heap) (pd : Nat → Prop) (s : St) (t : Nat) (x y : AV) (K : AV → Heap → Prop) (hx_ : appB L T h0 pd s t x y K) : appB0 L T h0 pd s t x y K := by
  have e : (appB L T h0 pd s t x y K) = (appB0 L T h0 pd s t x y K) := by cases s; kernel_rfl
  exact e ▸ hx_
theorem appB_new (L : LE) (T : Nat → Prop) (h0 : Heap) (pd : Nat → Prop) (s : St) (t : Nat) (x y : AV) (K : AV → Heap → Prop) (hx_ : appB0 L T h0 pd s t x y K) : appB L T h0 pd s t x y K := by
  have e : (appB0 L T h0 pd s t x y K) = (appB L T h0 pd s t x y K) := by cases s; kernel_rfl
  exact e ▸ hx_

def appA0 (L : LE) (T : Nat → Prop) (h0 : Heap) (pd : Nat → Prop) (s : St) (t : Nat) (x y : AV) (K : AV → Heap → Prop) : Prop :=
  match x with
  | .d (.acc c n) => match L t with
    | none => False
    | some l => match l.d with
      | .slc e => match L e with
        | none => False
        | some le => match Nat.beq le.bytes 0, Nat.beq le.size 0 with
          | false, false => srcK s le.size y fun mm news => AccX T h0 pd e le.size le.bytes s.h c n mm news K
          | _, _ => False
      | _ => False
  | x => appB L T h0 pd s t x y K

def appA (L : LE) (T : Nat → Prop) (h0 : Heap) (pd : Nat → Prop) (s : St) (t : Nat) (x y : AV) (K : AV → Heap → Prop) : Prop :=
  match s with
  | ⟨tm, loc, hp⟩ =>
    match x with
    | .d (.acc c n) => match L t with
      | none => False
      | some ⟨lsz, lby, lz, ld, leq⟩ => match ld with
        | .slc e => match L e with
          | none => False
          | some ⟨esz, eby, ez, ed, eeq⟩ => match Nat.beq eby 0, Nat.beq esz 0 with
            | false, false => srcK ⟨tm, loc, hp⟩ esz y fun mm news => AccX T h0 pd e esz eby hp c n mm news K
            | _, _ => False
        | _ => False
    | x => appB L T h0 pd ⟨tm, loc, hp⟩ t x y K

theorem appA_old (L : LE) (T : Nat → Prop) (h0 : Heap) (pd : Nat → Prop) (s : St) (t : Nat) (x y : AV) (K : AV → Heap → Prop) (hx_ : appA L T h0 pd s t x y K) : appA0 L T h0 pd s t x y K := by
  have e : (appA L T h0 pd s t x y K) = (appA0 L T h0 pd s t x y K) := by cases s; kernel_rfl
  exact e ▸ hx_
theorem appA_new (L : LE) (T : Nat → Prop) (h0 : Heap) (pd : Nat → Prop) (s : St) (t : Nat) (x y : AV) (K : AV → Heap → Prop) (hx_ : appA0 L T h0 pd s t x y K) : appA L T h0 pd s t x y K := by
  have e : (appA0 L T h0 pd s t x y K) = (appA L T h0 pd s t x y K) := by cases s; kernel_rfl
  exact e ▸ hx_

/-- So many zeros appended to nil: what they are is not kept. -/
def appZ (L : LE) (s : St) (t t' : Nat) (x y : AV) (K : AV → Heap → Prop) : Prop :=
  match s with
  | ⟨_, _, hp⟩ => match L t, L t' with
    | some ⟨_, _, _, .slc e, _⟩, some ⟨_, _, _, .int _, _⟩ => match L e with
      | some ⟨esz, eby, _, _, _⟩ => match Nat.beq esz 0 with
        | false => match x, y with
          | .d .nils, .d (.int _ k) => Rq (0 < k ∧ k * eby ≤ 140737488355328 ∧ k ≤ 140737488355328) (NewK hp fun o => K (.d (.ref o 0 k.toNat)) (hp.upd o ⟨[], e, esz, false, true⟩))
          | _, _ => False
        | true => False
      | none => False
    | _, _ => False

theorem srcK_mono {s : St} {size : Nat} {y : AV} {k k' : Nat → List FV → Prop} (hk : ∀ n xs, xs.length = n * size → k n xs → k' n xs) (h : srcK s size y k) : srcK s size y k' := by
  replace h := srcK_old _ _ _ _ h
  refine srcK_new _ _ _ _ ?_
  unfold srcK0 at h ⊢
  split at h
  · exact hk _ _ (by simp) h
  · exact Rq.mk h.get.1 (hk _ _ h.get.1 h.get.2)
  · obtain ⟨ob, e, h⟩ := h.get
    obtain ⟨h1, h2⟩ := h.get
    exact ObjK.mk ob e (SubO.mk _ rfl h1 (hk _ _ (length_sub h1) h2))
  · exact h.elim

section
variable {P : Program} {B0 N : Nat} {Z : Nat → Prop} {m : Nat → Option Blk} {ml : Nat → Option Nat} {w w' : World} {s : St} {a : Act}

/-- The source of an append, as the model's law wants it; or nil. -/
theorem srcK_ok (r : RR B0 N Z m ml s a w) {size : Nat} {y : AV} {v : Value} {k : Nat → List FV → Prop} (hy : VA N Z m ml w y v) (h : srcK s size y k) :
    ∃ n xs, k n xs ∧ xs.length = n * size ∧ ((v = .slice none 0 0 ∧ n = 0 ∧ xs = []) ∨ ∃ (ad : Addr) (c : Nat) (news : List Value), v = .slice (some ad) n c ∧ news.length = n * size ∧ (∀ (j : Nat) (u : Value), news[j]? = some u → w.cell? (ad.add j) = some u) ∧
      (∀ u ∈ news, u.oneCell' = true) ∧ Row N Z m w xs news.toArray) := by
  have fin : ∀ {ad : Addr} {xs : List FV}, At N Z m w ad xs → ∃ news : List Value, news.length = xs.length ∧ (∀ (j : Nat) (u : Value), news[j]? = some u → w.cell? (ad.add j) = some u) ∧ (∀ u ∈ news, u.oneCell' = true) ∧ Row N Z m w xs news.toArray := by
    intro ad xs hat
    obtain ⟨us, h1, h2, h3⟩ := hat.vals
    refine ⟨us, h1, h2, fun u hu => ?_, by simpa using h1, fun i x v hx hv => h3 i x v hx (by simpa using hv)⟩
    obtain ⟨i, hi⟩ := List.mem_iff_getElem?.1 hu
    have hlt : i < xs.length := by have := (List.getElem?_eq_some_iff.1 hi).1; omega
    exact (h3 i _ u (List.getElem?_eq_getElem hlt) hi).oneCell
  replace h := srcK_old _ _ _ _ h
  unfold srcK0 at h
  split at h
  · cases hy; rename_i hy; cases hy
    exact ⟨0, [], h, by simp, .inl ⟨rfl, rfl, rfl⟩⟩
  · rename_i n cs
    obtain ⟨h1, h2⟩ := h.get
    cases hy; rename_i hy
    rcases hy.lst_inv with ⟨rfl, rfl, rfl⟩ | ⟨ad, cap, u, rfl, hn, hz, hc, hv⟩
    · exact ⟨0, [], h2, by simp, .inl ⟨rfl, rfl, rfl⟩⟩
    obtain ⟨news, e1, e2, e3, e4⟩ := fin (ad := ad) (xs := cs) (fun i x hx => ⟨u i, hc i x hx, hv i x hx⟩)
    exact ⟨n, cs, h2, h1, .inr ⟨ad, cap, news, rfl, by rw [e1, h1], e2, e3, e4⟩⟩
  · rename_i o off n
    obtain ⟨ob, ho, h⟩ := h.get
    obtain ⟨h1, h2⟩ := h.get
    cases hy; rename_i hy; cases hy; rename_i ad cap hoN ha hn
    obtain ⟨b, arr, hb, _⟩ := r.H.obj o ob ho
    obtain ⟨a1, _, _⟩ := ha b hb
    have hlen := length_sub h1
    by_cases h0 : n = 0
    · subst h0
      have e0 : (ob.cells.drop off).take (0 * size) = [] := by simp
      refine ⟨0, _, h2, hlen, .inr ⟨ad, cap, [], rfl, by simp, by simp, by simp, by rw [e0]; exact ⟨rfl, by simp⟩⟩⟩
    · have hat := r.H.at (off := off) ho hb (n * size)
      rw [← a1 (.inl (by omega))] at hat
      obtain ⟨news, e1, e2, e3, e4⟩ := fin hat
      exact ⟨n, _, h2, hlen, .inr ⟨ad, cap, news, rfl, by rw [e1, hlen], e2, e3, e4⟩⟩
  · exact h.elim

theorem append_none {t ty e : TypeId} {i : TypeInfo} (ht : P.underlying t = some (.slice e)) (hi : P.info? e = some i) (base : Option Addr) (n cap : Nat) (hn : n ≤ cap) :
    (Builtin.append_ #[t, t] ty #[.slice base n cap, .slice none 0 0]).run P w = .ok (.slice base n cap) w := by
  cases base <;> simp [Builtin.append_, run_underlying ht, sizeOf, typeInfo, hi, Builtin.lenOf, hn, Builtin.firstCells, storeCells]

theorem appB_ok {L : LE} (hL : LayOK P L) (r : RR B0 N Z m ml s a w) {T : Nat → Prop} {h0 : Heap} {pd : Nat → Prop} {t ty : Nat} {x y : AV} {vx vy : Value} {K : AV → Heap → Prop}
    (hx : VA N Z m ml w x vx) (hy : VA N Z m ml w y vy) (h : appB L T h0 pd s t x y K) :
    ∃ q v h' N' m' w' TT, K q h' ∧ (Builtin.append_ #[t, t] ty #[vx, vy]).run P w = .ok v w' ∧ VA N' Z m' ml w' q v ∧ RR B0 N' Z m' ml { s with h := h' } a w' ∧
      (∀ S, Stp TT S N Z m w N' Z m' w') ∧ (∀ o, TT o → (T o ∨ h0 o = none) ∧ ¬ pd o) := by
  replace h := appB_old _ _ _ _ _ _ _ _ _ h
  unfold appB0 at h
  split at h
  · exact h.elim
  · rename_i l hl
    have hu := hL.desc t l hl
    split at h
    · rename_i e hd
      rw [hd] at hu
      have hu : P.underlying t = some (.slice e) := hu
      split at h
      · exact h.elim
      · rename_i le hle
        obtain ⟨i, z, i1, i2, i3, i4, i5⟩ := hL.info e le hle
        obtain ⟨z1, z2⟩ := hL.zero e le hle
        have hzs : z.cells.size = le.size := by rw [i5]; simp [z2]
        split at h
        · rename_i hb0 hs0
          have hby : 0 < le.bytes := by
            rcases Nat.eq_zero_or_pos le.bytes with e | e
            · rw [e] at hb0; cases hb0
            · exact e
          have hsz : 0 < le.size := by
            rcases Nat.eq_zero_or_pos le.size with e | e
            · rw [e] at hs0; cases hs0
            · exact e
          obtain ⟨mm, news, hk, hnl, hsrc⟩ := srcK_ok r hy h
          clear h
          have h := hk
          clear hk
          split at h
          · obtain ⟨hbound, h⟩ := h.get
            obtain ⟨k0, k1⟩ := h.get
            cases hx; rename_i hx; cases hx
            rcases hsrc with ⟨rfl, rfl, rfl⟩ | ⟨ad, c, nv, rfl, n1, n2, n3, n4⟩
            · exact ⟨_, _, s.h, N, m, w, fun _ => False, k0 rfl, append_none hu i1 none 0 0 (Nat.le_refl _), .d .nils, r, fun S => Stp.refl _ _ _ _ _ _, fun o ho => ho.elim⟩
            · have hmm : mm ≤ 140737488355328 := Nat.le_trans (Nat.le_mul_of_pos_right mm hby) hbound
              obtain ⟨v', w', e1, e2, e3, e4, e5⟩ := run_append_own_at (P := P) w 0 t ty e i z le.size le.bytes hu i1 i4 i2 i3 hzs hsz (.slice none 0 0) 0 [] (World.ownsRow_nil w 0 e le.size) ad mm c nv n1 n2 n3
                (by simp only [maxLen]; omega) (by simpa using hbound) (Nat.zero_le _)
              by_cases hm0 : mm = 0
              · have hv' : v' = .slice none 0 0 := e4.2 ⟨rfl, hm0⟩
                have hgr : Grow w w' := ⟨e3.size, fun b hb => e3.block b hb (by simp [Value.ownBlock]), e3.os, e3.tape, e3.output⟩
                subst hv'
                exact ⟨_, _, s.h, N, m, w', fun _ => False, k0 hm0, e1, .d .nils, r.grow hgr, fun S => Stp.grow _ S hgr, fun o ho => ho.elim⟩
              · have hgr : Grow w w' := ⟨e3.size, fun b hb => e3.block b hb (by simp [Value.ownBlock]), e3.os, e3.tape, e3.output⟩
                rcases e2.2 with ⟨hv, h0'⟩ | ⟨g, cap, cur, hv, _, hg, hcap, hcm, hcs, htk⟩
                · omega
                · subst hv
                  have hgeq : g = w.heap.size := by
                    rcases e5 with e5 | e5
                    · simp [Value.ownBlock] at e5
                    · simpa [Value.ownBlock] using e5
                  subst hgeq
                  simp only [Nat.zero_add, List.nil_append] at htk hcap e1
                  have hlen : news.length ≤ cur.size := by rw [hcs, hnl]; exact Nat.mul_le_mul_right _ hcap
                  have hrow : ∀ (i : Nat) (x : FV), news[i]? = some x → ∃ v, cur[i]? = some v ∧ VF N Z m w x v := fun i x hx => by
                    have hi : i < news.length := (List.getElem?_eq_some_iff.1 hx).1
                    have hi' : i < nv.length := by rw [n1, ← hnl]; exact hi
                    refine ⟨nv[i], ?_, n4.2 i x _ hx (by simp [hi'])⟩
                    have : (cur.toList.take (mm * le.size))[i]? = some nv[i] := by rw [htk]; exact List.getElem?_eq_getElem hi'
                    rw [List.getElem?_take_of_lt (by omega)] at this
                    simpa using this
                  obtain ⟨hN, m', g1, g2, g3⟩ := r.newObj (ty := e) (es := le.size) (ar := true) ⟨hlen, hrow⟩ hgr hg
                  have k := (k1 (by omega)).get N hN
                  refine ⟨_, _, _, N + 1, m', w', fun _ => False, k, e1, .d (.ref _ _ _ _ _ (Nat.lt_succ_self N) (by simpa using hcap) fun b hb => ?_), g2, fun S => g3 _ S, fun o ho => ho.elim⟩
                  rw [g1] at hb; cases hb
                  exact ⟨fun _ => rfl, by simp [hcs], hcm⟩
          · rename_i o off n
            split at h
            · exact h.elim
            · rename_i hoff
              have hoff : off = 0 := by simpa using hoff
              subst hoff
              obtain ⟨ob, ho, h⟩ := h.get
              obtain ⟨⟨hok, hpd⟩, h⟩ := h.get
              cases hx; rename_i hx; cases hx; rename_i av cap hoN ha hn
              obtain ⟨b, arr, hb, b1, b2, b3, b4, b5, b6, b7⟩ := r.H.obj o ob ho
              obtain ⟨a1, a2, a3⟩ := ha b hb
              obtain rfl := a1 (.inr rfl)
              simp only [Nat.zero_add] at a2
              rw [b2, hok.es] at a2
              have hTT : ∀ p, (fun q => q = o) p → (T p ∨ h0 p = none) ∧ ¬ pd p := fun p hp => by subst hp; exact ⟨hok.may, hpd⟩
              have key : ∀ (v' : Value) (w' : World) (cur : Array Value) (g cap' : Nat) (nv : List Value), v' = .slice (some ⟨g, 0, none⟩) (n + mm) cap' → w'.heap[g]? = some (.cells cur e (0, 0)) → n + mm ≤ cap' → cap' ≤ maxLen →
                  cur.size = cap' * le.size → cur.toList.take ((n + mm) * le.size) = arr.toList.take (n * le.size) ++ nv → w.grownBy w' (some b.b) → (g = b.b ∨ g = w.heap.size) → nv.length = mm * le.size → Row N Z m w news nv.toArray →
                  ∃ q h' N' m' TT, K q h' ∧ VA N' Z m' ml w' q v' ∧ RR B0 N' Z m' ml { s with h := h' } a w' ∧ (∀ S, Stp TT S N Z m w N' Z m' w') ∧ (∀ o, TT o → (T o ∨ h0 o = none) ∧ ¬ pd o) := by
                intro v' w' cur g cap' nv hv hg hcap hcm hcs htk hgr hwhere hnv hrw
                have hlen : (ob.cells ++ news).length ≤ cur.size := by rw [List.length_append, hok.len, hnl, hcs, ← Nat.add_mul]; exact Nat.mul_le_mul_right _ hcap
                have hrow : ∀ (i : Nat) (x : FV), (ob.cells ++ news)[i]? = some x → ∃ v, cur[i]? = some v ∧ VF N Z m w x v := fun i x hx => by
                  have hi : i < (n + mm) * le.size := by
                    have := (List.getElem?_eq_some_iff.1 hx).1
                    rw [List.length_append, hok.len, hnl, ← Nat.add_mul] at this; exact this
                  have hc : cur[i]? = (arr.toList.take (n * le.size) ++ nv)[i]? := by
                    rw [← htk, List.getElem?_take_of_lt hi]; simp
                  have hal : (arr.toList.take (n * le.size)).length = n * le.size := by
                    have : n * le.size ≤ arr.size := by rw [← hok.len, b4]; exact b5
                    simp; omega
                  rw [hc, List.getElem?_append, hal]
                  rw [List.getElem?_append, hok.len] at hx
                  split at hx
                  · rename_i hlt
                    rw [if_pos hlt, List.getElem?_take_of_lt hlt]
                    obtain ⟨v, e1, e2⟩ := b6 i x hx
                    exact ⟨v, by simpa using e1, e2⟩
                  · rename_i hlt
                    rw [if_neg hlt]
                    have hlt2 : i - n * le.size < nv.length := by rw [hnv]; have := Nat.add_mul n mm le.size; omega
                    exact ⟨nv[i - n * le.size], List.getElem?_eq_getElem hlt2, hrw.2 _ x _ hx (by simp [hlt2])⟩
                obtain ⟨hN, m', g1, g2, g3⟩ := r.growObj (ty := e) (es := le.size) (ar := true) ho hok.ro hb hwhere hgr hg hlen hrow
                have k := (h.get N hN).get
                refine ⟨_, _, N + 1, m', fun q => q = o, k, ?_, g2, fun S => g3 _ S rfl, hTT⟩
                rw [hv]
                refine .d (.ref _ _ _ _ _ (Nat.lt_succ_self N) hcap fun b' hb' => ?_)
                rw [g1] at hb'; cases hb'
                exact ⟨fun _ => rfl, by simp [hcs], hcm⟩
              rcases hsrc with ⟨rfl, rfl, rfl⟩ | ⟨ad, c, nv, rfl, n1, n2, n3, n4⟩
              · have hrun := append_none (P := P) (w := w) (ty := ty) hu i1 (some ⟨b.b, 0, none⟩) n cap hn
                rw [hok.ty] at b3
                obtain ⟨q, h', N', m', TT, k1, k2, k3, k4, k5⟩ := key _ w arr b.b cap [] rfl b3 hn a3 (by rw [b4, a2]) (by simp) ⟨rfl, rfl, rfl, Nat.le_refl _, fun _ _ _ => rfl⟩ (.inl rfl) (by simp) ⟨rfl, by simp⟩
                exact ⟨q, _, h', N', m', w, TT, k1, hrun, k2, k3, k4, k5⟩
              · have hbound := hok.room
                have hmm : n + mm ≤ 140737488355328 := Nat.le_trans (Nat.le_mul_of_pos_right _ hby) hbound
                have hown : w.ownsRow 0 e le.size (.slice (some ⟨b.b, 0, none⟩) n cap) n (arr.toList.take (n * le.size)) := by
                  refine ⟨?_, .inr ⟨b.b, cap, arr, rfl, Nat.zero_le _, by rw [← hok.ty]; exact b3, hn, a3, by rw [b4, a2], rfl⟩⟩
                  have : n * le.size ≤ arr.size := by rw [← hok.len, b4]; exact b5
                  simp; omega
                obtain ⟨v', w', e1, e2, e3, e4, e5⟩ := run_append_own_at (P := P) w 0 t ty e i z le.size le.bytes hu i1 i4 i2 i3 hzs hsz _ n _ hown ad mm c nv n1 n2 n3 (by simp only [maxLen]; omega) hbound (Nat.zero_le _)
                rcases e2.2 with ⟨hv, _⟩ | ⟨g, cap', cur, hv, _, hg, hcap, hcm, hcs, htk⟩
                · have := e4.1 hv; simp at this
                · have hwhere : g = b.b ∨ g = w.heap.size := by
                    subst hv
                    rcases e5 with e5 | e5
                    · left; simpa [Value.ownBlock] using e5
                    · right; simpa [Value.ownBlock] using e5
                  obtain ⟨q, h', N', m', TT, k1, k2, k3, k4, k5⟩ := key v' w' cur g cap' nv hv hg hcap hcm hcs htk e3 hwhere n1 n4
                  exact ⟨q, v', h', N', m', w', TT, k1, e1, k2, k3, k4, k5⟩
          · exact h.elim
        · exact h.elim
    · exact h.elim

theorem appA_ok {L : LE} (hL : LayOK P L) (r : RR B0 N Z m ml s a w) {T : Nat → Prop} {h0 : Heap} {pd : Nat → Prop} {t ty : Nat} {x y : AV} {vx vy : Value} {K : AV → Heap → Prop}
    (hx : VA N Z m ml w x vx) (hy : VA N Z m ml w y vy) (h : appA L T h0 pd s t x y K) :
    ∃ q v h' N' m' w' TT, K q h' ∧ (Builtin.append_ #[t, t] ty #[vx, vy]).run P w = .ok v w' ∧ VA N' Z m' ml w' q v ∧ RR B0 N' Z m' ml { s with h := h' } a w' ∧
      (∀ S, Stp TT S N Z m w N' Z m' w') ∧ (∀ o, TT o → (T o ∨ h0 o = none) ∧ ¬ pd o) := by
  replace h := appA_old _ _ _ _ _ _ _ _ _ h
  unfold appA0 at h
  split at h
  · rename_i c n
    let K0 : AV → Heap → Prop := fun q h' => ∃ q', (∀ N Z m ml w v, VA N Z m ml w q v → VA N Z m ml w q' v) ∧ K q' h'
    have key : ∀ x0, VA N Z m ml w x0 vx → appB L T h0 pd s t x0 y K0 → ∃ q v h' N' m' w' TT, K q h' ∧ (Builtin.append_ #[t, t] ty #[vx, vy]).run P w = .ok v w' ∧ VA N' Z m' ml w' q v ∧ RR B0 N' Z m' ml { s with h := h' } a w' ∧
      (∀ S, Stp TT S N Z m w N' Z m' w') ∧ (∀ o, TT o → (T o ∨ h0 o = none) ∧ ¬ pd o) := fun x0 hx0 h => by
      obtain ⟨q, v, h', N', m', w', TT, ⟨q', k1, k2⟩, h2, h3, h4⟩ := appB_ok hL r hx0 hy h
      exact ⟨q', v, h', N', m', w', TT, k2, h2, k1 _ _ _ _ _ _ h3, h4⟩
    split at h
    · exact h.elim
    · rename_i l hl
      split at h
      · rename_i e hd
        split at h
        · exact h.elim
        · rename_i le hle
          split at h
          · rename_i hb0 hs0
            cases hx; rename_i hx; cases hx
            · refine key (.d .nils) (.d .nils) (appB_new _ _ _ _ _ _ _ _ _ ?_)
              simp only [appB0, hl, hd, hle, hb0, hs0]
              refine srcK_mono (fun mm news hnl hk => ?_) h
              obtain ⟨hb, cells, e1, ok, _, _, _, hbd, hk⟩ := hk.out
              obtain ⟨_, e2⟩ := ok.nil rfl
              subst e2
              have e1 : s.h = hb := e1
              simp only [Nat.zero_add, List.nil_append] at hbd hk
              refine Rq.mk hbd (AppN.mk (fun h0 => ?_) fun hpos => NewK.mk fun o ho => ?_)
              · subst h0
                have hn : AccOK hb none 0 news := ⟨by simp, fun _ => ⟨rfl, by simpa using hnl⟩⟩
                have := (hk none hn).get
                exact ⟨_, fun _ _ _ _ _ _ hv => by cases hv; rename_i hv; cases hv; exact .d .acc0, by rw [e1]; exact this⟩
              · have hn : AccOK hb (some o) mm news := ⟨fun p hp => by cases hp; rw [← e1]; exact ho, by simp⟩
                have := (hk (some o) hn).get
                exact ⟨_, fun _ _ _ _ _ _ hv => by cases hv; rename_i hv; exact .d (.acc1 _ _ _ hv), by rw [e1]; exact this⟩
            · rename_i o hx
              refine key (.d (.ref o 0 n)) (.d hx) (appB_new _ _ _ _ _ _ _ _ _ ?_)
              simp only [appB0, hl, hd, hle, hb0, hs0]
              refine srcK_mono (fun mm news hnl hk => ?_) h
              obtain ⟨hb, cells, e1, ok, hw, hp, hlen, hbd, hk⟩ := hk.out
              have e1 : s.h = hb.upd o ⟨cells, e, le.size, false, true⟩ := e1
              have hbo := ok.fresh o rfl
              show ObjK s.h o _
              refine ObjK.mk _ (by rw [e1]; exact Heap.upd_same) ?_
              refine Rq.mk ⟨⟨rfl, rfl, rfl, hlen, hw o rfl, hbd⟩, hp o rfl⟩ (NewK.mk fun p hq => ?_)
              rw [e1] at hq ⊢
              obtain ⟨hpo, hbp⟩ := Heap.upd_none hq
              have := hk (some p) ⟨fun p' hp' => by cases hp'; exact hbp, by simp⟩
              refine Nm.mk _ rfl ?_
              rw [Heap.renew hbo]
              exact ⟨_, fun _ _ _ _ _ _ hv => by cases hv; rename_i hv; exact .d (.acc1 _ _ _ hv), this.get⟩
          · exact h.elim
      · exact h.elim
  · exact appB_ok hL r hx hy h

theorem appZ_ok {L : LE} (hL : LayOK P L) (r : RR B0 N Z m ml s a w) {t t' ty : Nat} {x y : AV} {vx vy : Value} {K : AV → Heap → Prop} (hx : VA N Z m ml w x vx) (hy : VA N Z m ml w y vy) (h : appZ L s t t' x y K) :
    ∃ q v h' N' m' w', K q h' ∧ (Builtin.append_ #[t, t'] ty #[vx, vy]).run P w = .ok v w' ∧ VA N' Z m' ml w' q v ∧ RR B0 N' Z m' ml { s with h := h' } a w' ∧ ∀ T S, Stp T S N Z m w N' Z m' w' := by
  obtain ⟨tm, loc, hp⟩ := s
  unfold appZ at h
  simp only at h
  split at h
  · rename_i _ _ sz by_ ze e eq0 sz' by' ze' kn eq' hl hl'
    have hu : P.underlying t = some (.slice e) := hL.desc t _ hl
    have hu' : P.underlying t' = some (.int kn) := hL.desc t' _ hl'
    split at h
    · rename_i esz eby ez ed eeq hle
      obtain ⟨i, z, i1, i2, i3, i4, i5⟩ := hL.info e _ hle
      simp only at i2 i3 i5
      split at h
      · rename_i hs0
        have hsz : 0 < i.size := by
          rcases Nat.eq_zero_or_pos i.size with e | e
          · rw [← i2, e] at hs0; cases hs0
          · exact e
        split at h
        · rename_i kq k
          cases hx; rename_i hx; cases hx
          cases hy; rename_i hy; cases hy
          obtain ⟨⟨h0, h1, h2⟩, hk⟩ := h.get
          obtain ⟨j, rfl⟩ : ∃ j : Nat, k = j := ⟨k.toNat, by omega⟩
          simp only [Int.toNat_natCast] at hk
          have h1' : j * i.bytes ≤ 140737488355328 := by rw [i3]; rw [← Int.natCast_mul] at h1; omega
          have hn : Builtin.nextslicecap (0 + j) 0 = 0 + j := by unfold Builtin.nextslicecap; exact if_pos (by omega)
          have hrun := Lib.run_append_grow_zeros (P := P) w t t' ty e i z kq kn hu hu' i1 i4 none 0 0 [] (by simp [Builtin.firstCells]) j (by omega) hsz (by omega) (by omega) (by omega) (by rw [hn]; simpa using Nat.le_trans h1' (by decide))
          generalize hw : (w.drew.alloc (.cells (([] : List Value).toArray ++ Builtin.zeroCells z.cells j ++ Builtin.zeroCells z.cells (grownCap w (0 + j) 0 e - (0 + j))) e)) = w' at hrun
          have hgr : Grow w w' := by
            rw [← hw]
            have g1 : Grow w w.drew := Grow.drew w
            have g2 := Grow.alloc w.drew (.cells (([] : List Value).toArray ++ Builtin.zeroCells z.cells j ++ Builtin.zeroCells z.cells (grownCap w (0 + j) 0 e - (0 + j))) e)
            exact ⟨Nat.le_trans g1.sz g2.sz, fun b hb => (g2.old b hb).trans (g1.old b hb), rfl, rfl, rfl⟩
          have hb : w'.heap[w.heap.size]? = some (.cells (([] : List Value).toArray ++ Builtin.zeroCells z.cells j ++ Builtin.zeroCells z.cells (grownCap w (0 + j) 0 e - (0 + j))) e (0, 0)) := by rw [← hw]; exact heap_alloc_new w.drew _
          obtain ⟨hN, m', g1, g2, g3⟩ := r.newObj (xs := []) (ty := e) (es := esz) (ar := true) ⟨Nat.zero_le _, by simp⟩ hgr hb
          refine ⟨_, _, _, N + 1, m', w', hk.get N hN, hrun, ?_, g2, fun T S => g3 T S⟩
          have hge := grownCap_ge w (0 + j) 0 e
          have hmx := grownCap_le_maxLen w (0 + j) 0 e (by simp only [maxLen]; omega)
          have hzc : z.cells.size = esz := by have := (hL.zero e _ hle).2; simp only at this; rw [i5]; simpa using this
          rw [show (Value.slice (some ⟨w.heap.size, 0, none⟩) (0 + j) (grownCap w (0 + j) 0 e)) = .slice (some ⟨w.heap.size, 0, none⟩) j (grownCap w (0 + j) 0 e) by rw [Nat.zero_add j]]
          refine .d (.ref _ _ _ _ _ (Nat.lt_succ_self N) (by omega) fun b hb => ?_)
          rw [g1] at hb; cases hb
          refine ⟨fun _ => rfl, ?_, hmx⟩
          simp only [Builtin.zeroCells, Array.size_append, Array.size_map, Array.size_range, hzc, List.size_toArray, List.length_nil, Nat.zero_add]
          rw [← Nat.add_mul]
          congr 1
          rw [Nat.zero_add] at hge
          omega
        · exact h.elim
      · exact h.elim
    · exact h.elim
  · exact h.elim

end

end Go.Proofs.Rv
