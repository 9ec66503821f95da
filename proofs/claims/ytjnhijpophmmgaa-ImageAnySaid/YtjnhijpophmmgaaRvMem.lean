/- RvMem: the relation behind a new block, behind a store, behind a put. -/
import Derived.Test.YtjnhijpophmmgaaRvYld5
set_option linter.unusedVariables false
set_option linter.unusedSimpArgs false
namespace Go.Proofs.Rv
open Go

/-- All that was there is as it was. -/
structure Grow (w w' : World) : Prop where
  sz : w.heap.size ≤ w'.heap.size
  old : ∀ b, b < w.heap.size → w'.heap[b]? = w.heap[b]?
  os : w'.os = w.os
  tape : w'.tape = w.tape
  output : w'.output = w.output

theorem Grow.alloc (w : World) (o : Go.Obj) : Grow w (w.alloc o) :=
  ⟨by simp, fun b hb => heap_alloc_old w o b hb, rfl, rfl, rfl⟩

theorem Grow.drew (w : World) : Grow w { w with drawn := w.drawn + 1 } := ⟨Nat.le_refl _, fun _ _ => rfl, rfl, rfl, rfl⟩

theorem Grow.refl (w : World) : Grow w w := ⟨Nat.le_refl _, fun _ _ => rfl, rfl, rfl, rfl⟩

theorem heap_lt {w : World} {b : Nat} {o : Go.Obj} (h : w.heap[b]? = some o) : b < w.heap.size := by
  rcases Nat.lt_or_ge b w.heap.size with h' | h'
  · exact h'
  · rw [Array.getElem?_eq_none h'] at h; cases h

section
variable {B0 N : Nat} {Z : Nat → Prop} {m : Nat → Option Blk} {ml : Nat → Option Nat} {w w' : World} {s : St} {a : Act}

theorem RelH.grow {h : Heap} (r : RelH N Z m h w) (g : Grow w w') : RelH N Z m h w' where
  non := r.non
  obj := fun o ob ho => by
    obtain ⟨b, arr, h1, h2, h3, h4, h5, h6, h7, h8⟩ := r.obj o ob ho
    refine ⟨b, arr, h1, h2, h3, by rw [g.old _ (heap_lt h4)]; exact h4, h5, h6, fun i x hx => ?_, h8⟩
    obtain ⟨v, e1, e2⟩ := h7 i x hx
    exact ⟨v, e1, e2.mono (Nat.le_refl _) (fun _ h => h) (fun _ _ => .inl rfl) (fun b hb => g.old b (r.zlt b hb))⟩
  inj := r.inj
  zlt := fun b hb => Nat.lt_of_lt_of_le (r.zlt b hb) g.sz

theorem RelL.grow {loc : List (Nat × List FV)} (r : RelL B0 N Z m ml loc w) (hz : ∀ b, Z b → b < w.heap.size) (g : Grow w w') : RelL B0 N Z m ml loc w' where
  sl := fun t cs hc => by
    obtain ⟨b, arr, T, h1, h2, h3, h4⟩ := r.sl t cs hc
    refine ⟨b, arr, T, h1, by rw [g.old _ (heap_lt h2)]; exact h2, h3, fun i x hx => ?_⟩
    obtain ⟨v, e1, e2⟩ := h4 i x hx
    exact ⟨v, e1, e2.mono (Nat.le_refl _) (fun _ h => h) (fun _ _ => .inl rfl) (fun b hb => g.old b (hz b hb))⟩
  dom := fun t b hb => by
    obtain ⟨h1, h2, h3, h4⟩ := r.dom t b hb
    exact ⟨h1, h2, Nat.lt_of_lt_of_le h3 g.sz, h4⟩
  inj := r.inj

theorem RelT.mono {N' : Nat} {Z' : Nat → Prop} {m' : Nat → Option Blk} {ml' : Nat → Option Nat} {tm : List AV} (r : RelT N Z m ml tm a w) (hN : N ≤ N') (hZ : ∀ b, Z b → Z' b)
    (hm : ∀ o, o < N → m' o = m o ∨ m' o = none) (hw : ∀ b, Z b → w'.heap[b]? = w.heap[b]?) (hl : ∀ t b, ml' t = some b → ml t = some b) : RelT N' Z' m' ml' tm a w' where
  size := r.size
  get := fun i x v hx hv => (r.get i x v hx hv).mono hN hZ hm hw hl
  dfr := fun i d hd => by
    obtain ⟨f, xs, vs, h1, h2, h3, h4⟩ := r.dfr i d hd
    exact ⟨f, xs, vs, h1, h2, h3, fun j x v hx hv => (h4 j x v hx hv).mono hN hZ hm hw hl⟩

theorem RR.grow (r : RR B0 N Z m ml s a w) (g : Grow w w') : RR B0 N Z m ml s a w' where
  H := r.H.grow g
  L := r.L.grow r.H.zlt g
  T := r.T.mono (Nat.le_refl _) (fun _ h => h) (fun _ _ => .inl rfl) (fun b hb => g.old b (r.H.zlt b hb)) (fun _ _ h => h)
  B := Nat.le_trans r.B g.sz

theorem Stp.grow (T S : Nat → Prop) (g : Grow w w') : Stp T S N Z m w N Z m w' :=
  ⟨Nat.le_refl _, fun _ h => h, fun _ _ => .inl rfl, fun _ _ h => .inl h, fun _ h => .inl h, g.sz, fun b hb _ => g.old b hb, g.os, g.tape, g.output⟩

def setL : List AV → Nat → AV → List AV
  | [], _, _ => []
  | x :: xs, 0, v => match x with
    | .dfr f ys => .dfr f ys :: xs
    | _ => v :: xs
  | x :: xs, n + 1, v => x :: setL xs n v

theorem setL_len : ∀ (xs : List AV) (n : Nat) (v : AV), (setL xs n v).length = xs.length
  | [], _, _ => by simp [setL]
  | x :: xs, 0, v => by unfold setL; split <;> simp
  | x :: xs, n + 1, v => by simp [setL, setL_len xs n v]

theorem setL_get : ∀ (xs : List AV) (n i : Nat) (v : AV), (setL xs n v)[i]? = match xs[i]? with
    | some (.dfr f ys) => some (.dfr f ys)
    | some x => if i = n then some v else some x
    | none => none
  | [], _, i, _ => by simp [setL]
  | x :: xs, 0, 0, v => by
    unfold setL
    split
    · simp
    · rename_i h; cases x <;> first | rfl | exact absurd rfl (h _ _)
  | x :: xs, 0, i + 1, v => by
    have : (setL (x :: xs) 0 v)[i + 1]? = xs[i]? := by unfold setL; split <;> simp
    rw [this]
    simp only [List.getElem?_cons_succ]
    cases xs[i]? with
    | none => rfl
    | some y => cases y <;> simp
  | x :: xs, n + 1, 0, v => by
    simp only [setL, List.getElem?_cons_zero]
    cases x <;> simp
  | x :: xs, n + 1, i + 1, v => by
    simp only [setL, List.getElem?_cons_succ, setL_get xs n i v]
    cases xs[i]? with
    | none => rfl
    | some y => cases y <;> simp

/-- A temporary is set. -/
theorem RelT.setL {N : Nat} {Z : Nat → Prop} {m : Nat → Option Blk} {ml : Nat → Option Nat} {w : World} {a a' : Act} {tm : List AV} (r : RelT N Z m ml tm a w) {d : Nat} {y : AV} (hd : a'.defers = a.defers) (hs : a'.tmps.size = a.tmps.size)
    (h : ∀ i v, a'.tmps[i]? = some v → if i = d then VA N Z m ml w y v else a.tmps[i]? = some v) : RelT N Z m ml (Rv.setL tm d y) a' w := by
  refine ⟨by rw [setL_len, hs, hd, r.size], fun i x v hx hv => ?_, fun i e he => ?_⟩
  · have hi := h i v hv
    rw [setL_get] at hx
    split at hx
    · rename_i f ys hq
      rcases r.pos hq with ⟨_, hne⟩ | ⟨hge, _⟩
      · exact absurd rfl (hne _ _)
      · have : i < a'.tmps.size := (Array.getElem?_eq_some_iff.1 hv).1
        omega
    · rename_i z _ hq
      split at hx
      · rename_i e; rw [if_pos e] at hi; cases hx; exact hi
      · rename_i e; rw [if_neg e] at hi; cases hx; exact r.get i _ v hq hi
    · cases hx
  · rw [hd] at he
    obtain ⟨f, xs, vs, h1, h2⟩ := r.dfr i e he
    exact ⟨f, xs, vs, by rw [setL_get, hs, h1], h2⟩

def putA (tm : List AV) (dst : Option Nat) (v : AV) : List AV :=
  match dst with
  | some d => setL tm d v
  | none => tm

theorem RelT.put {tm : List AV} (r : RelT N Z m ml tm a w) (dst : Option Nat) {x : AV} {v : Value} (hv : VA N Z m ml w x v) : RelT N Z m ml (putA tm dst x) (a.put dst v) w := by
  cases dst with
  | none => exact r
  | some d =>
    refine r.setL (a' := a.put (some d) v) rfl (by simp [Act.put]) fun i u hu => ?_
    simp only [Act.put] at hu
    rw [Array.getElem?_setIfInBounds] at hu
    by_cases hd : d = i
    · subst hd
      rw [if_pos rfl] at hu
      rw [if_pos rfl]
      split at hu
      · cases hu; exact hv
      · cases hu
    · rw [if_neg hd] at hu
      rw [if_neg (fun e => hd e.symm)]; exact hu

theorem RR.put (r : RR B0 N Z m ml s a w) (dst : Option Nat) {x : AV} {v : Value} (hv : VA N Z m ml w x v) : RR B0 N Z m ml { s with tm := putA s.tm dst x } (a.put dst v) w :=
  ⟨r.H, r.L, r.T.put dst hv, r.B⟩

/-- A new object. -/
theorem RR.newObj (r : RR B0 N Z m ml s a w) {xs : List FV} {arr : Array Value} {ty : TypeId} {es : Nat} {ar : Bool} (hr : xs.length ≤ arr.size ∧ ∀ (i : Nat) (x : FV), xs[i]? = some x → ∃ v, arr[i]? = some v ∧ VF N Z m w x v) (g : Grow w w')
    (hb : w'.heap[w.heap.size]? = some (.cells arr ty (0, 0))) :
    s.h N = none ∧ ∃ m', m' N = some ⟨w.heap.size, arr.size, es⟩ ∧ RR B0 (N + 1) Z m' ml { s with h := s.h.upd N ⟨xs, ty, es, false, ar⟩ } a w' ∧ ∀ T S, Stp T S N Z m w (N + 1) Z m' w' := by
  have hN : s.h N = none := by
    cases h : s.h N with
    | none => rfl
    | some ob => obtain ⟨b, arr, _, h2, _⟩ := r.H.obj N ob h; omega
  have hmN : m N = none := r.H.non N hN
  let m' : Nat → Option Blk := fun p => if p = N then some ⟨w.heap.size, arr.size, es⟩ else m p
  have hm' : ∀ o, o < N → m' o = m o ∨ m' o = none := fun o ho => .inl (by simp only [m']; rw [if_neg (by omega)])
  have hw : ∀ b, Z b → w'.heap[b]? = w.heap[b]? := fun b hb => g.old b (r.H.zlt b hb)
  have hmono : ∀ {x : FV} {v : Value}, VF N Z m w x v → VF (N + 1) Z m' w' x v := fun h => h.mono (by omega) (fun _ h => h) hm' hw
  refine ⟨hN, m', by simp [m'], ⟨⟨fun o ho => ?_, fun o ob ho => ?_, fun o o' b b' h1 h2 e => ?_, fun b hb => Nat.lt_of_lt_of_le (r.H.zlt b hb) g.sz⟩, ⟨fun t cs hc => ?_, fun t b ht => ?_, r.L.inj⟩, ?_, Nat.le_trans r.B g.sz⟩, fun T S => ?_⟩
  · simp only [Heap.upd] at ho
    split at ho
    · cases ho
    · rename_i hne; simp only [m']; rw [if_neg hne]; exact r.H.non o ho
  · simp only [Heap.upd] at ho
    split at ho
    · rename_i he; subst he; cases ho
      refine ⟨_, arr, if_pos rfl, by omega, rfl, hb, rfl, hr.1, fun i x hx => ?_, ?_⟩
      · obtain ⟨v, e1, e2⟩ := hr.2 i x hx; exact ⟨v, e1, hmono e2⟩
      · constructor
        · intro hz; have := r.H.zlt _ hz; simp at this
        · intro h; cases h
    · rename_i hne
      obtain ⟨b, arr', h1, h2, h3, h4, h5, h6, h7, h8⟩ := r.H.obj o ob ho
      refine ⟨b, arr', by simp only [m']; rw [if_neg hne]; exact h1, by omega, h3, by rw [g.old _ (heap_lt h4)]; exact h4, h5, h6, fun i x hx => ?_, h8⟩
      obtain ⟨v, e1, e2⟩ := h7 i x hx; exact ⟨v, e1, hmono e2⟩
  · simp only [m'] at h1 h2
    split at h1 <;> split at h2
    · rename_i e1 e2; rw [e1, e2]
    · cases h1
      have := (r.H.lt h2).2; simp only at e; omega
    · cases h2
      have := (r.H.lt h1).2; simp only at e; omega
    · exact r.H.inj o o' b b' h1 h2 e
  · obtain ⟨b, arr', T, h1, h2, h3, h4⟩ := r.L.sl t cs hc
    refine ⟨b, arr', T, h1, by rw [g.old _ (heap_lt h2)]; exact h2, h3, fun i x hx => ?_⟩
    obtain ⟨v, e1, e2⟩ := h4 i x hx; exact ⟨v, e1, hmono e2⟩
  · obtain ⟨h1, h2, h3, h4, h5⟩ := r.L.dom t b ht
    refine ⟨h1, h2, Nat.lt_of_lt_of_le h3 g.sz, h4, fun o bb ho => ?_⟩
    simp only [m'] at ho
    split at ho
    · cases ho; simp only; omega
    · exact h5 o bb ho
  · exact r.T.mono (by omega) (fun _ h => h) hm' hw (fun _ _ h => h)
  · refine ⟨by omega, fun _ h => h, hm', fun o b ho => ?_, fun _ h => .inl h, g.sz, fun b hb _ => g.old b hb, g.os, g.tape, g.output⟩
    simp only [m'] at ho
    split at ho
    · rename_i e; cases ho; exact .inr ⟨by omega, .inl (Nat.le_refl _)⟩
    · exact .inl ho

/-- A new slot. -/
theorem RR.newSlot (r : RR B0 N Z m ml s a w) {t : Nat} (ht : AV.hasAny t s.tm = false) {xs : List FV} {arr : Array Value} {ty : TypeId} (hr : Row N Z m w xs arr) (g : Grow w w')
    (hb : w'.heap[w.heap.size]? = some (.cells arr ty (0, 0))) (hs : w.heap.size < w'.heap.size) {loc' : List (Nat × List FV)}
    (lk : ∀ u, lkL loc' u = if u = t then some xs else lkL s.loc u) :
    ∃ ml', ml' t = some w.heap.size ∧ (∀ u, u ≠ t → ml' u = ml u) ∧ RR B0 N Z m ml' { s with loc := loc' } a w' := by
  let ml' : Nat → Option Nat := fun u => if u = t then some w.heap.size else ml u
  have hw : ∀ b, Z b → w'.heap[b]? = w.heap[b]? := fun b hb => g.old b (r.H.zlt b hb)
  have hmono : ∀ {x : FV} {v : Value}, VF N Z m w x v → VF N Z m w' x v := fun h => h.mono (Nat.le_refl _) (fun _ h => h) (fun _ _ => .inl rfl) hw
  refine ⟨ml', by simp [ml'], fun u hu => by simp [ml', hu], ⟨r.H.grow g, ⟨fun u cs hc => ?_, fun u b hu => ?_, fun u u' b h1 h2 => ?_⟩, ⟨r.T.size, fun i x v hx hv => ?_, fun i d hd => ?_⟩, Nat.le_trans r.B g.sz⟩⟩
  · rw [lk] at hc
    split at hc
    · rename_i e; subst e; cases hc
      refine ⟨w.heap.size, arr, ty, if_pos rfl, hb, hr.1, fun i x hx => ?_⟩
      have hi : i < arr.size := by rw [hr.1]; exact (List.getElem?_eq_some_iff.1 hx).1
      exact ⟨arr[i], Array.getElem?_eq_getElem hi, hmono (hr.2 i x _ hx (Array.getElem?_eq_getElem hi))⟩
    · rename_i e
      obtain ⟨b, arr', T, h1, h2, h3, h4⟩ := r.L.sl u cs hc
      refine ⟨b, arr', T, by simp only [ml']; rw [if_neg e]; exact h1, by rw [g.old _ (heap_lt h2)]; exact h2, h3, fun i x hx => ?_⟩
      obtain ⟨v, e1, e2⟩ := h4 i x hx; exact ⟨v, e1, hmono e2⟩
  · simp only [ml'] at hu
    rw [lk]
    split at hu
    · rename_i e
      cases hu
      refine ⟨⟨xs, by rw [if_pos e]⟩, r.B, hs, fun hz => ?_, fun o bb ho e' => ?_⟩
      · have := r.H.zlt _ hz; omega
      · have := (r.H.lt ho).2; omega
    · rename_i e
      obtain ⟨h1, h2, h3, h4⟩ := r.L.dom u b hu
      exact ⟨by rw [if_neg e]; exact h1, h2, Nat.lt_of_lt_of_le h3 g.sz, h4⟩
  · simp only [ml'] at h1 h2
    split at h1 <;> split at h2
    · rename_i e1 e2; rw [e1, e2]
    · cases h1; have := (r.L.dom _ _ h2).2.2.1; omega
    · cases h2; have := (r.L.dom _ _ h1).2.2.1; omega
    · exact r.L.inj u u' b h1 h2
  · have h1 := (r.T.get i x v hx hv).mono (Nat.le_refl _) (fun _ h => h) (fun _ _ => .inl rfl) hw (fun _ _ h => h)
    refine VA.slot (t := t) (fun u hu b hb => ?_) h1 (AV.hasAny_get ht hx)
    simp only [ml'] at hb
    rw [if_neg hu] at hb
    exact hb
  · obtain ⟨f, xs, vs, e1, e2, e3, e4⟩ := r.T.dfr i d hd
    refine ⟨f, xs, vs, e1, e2, e3, fun j x v hx hv => ?_⟩
    have h1 := (e4 j x v hx hv).mono (Nat.le_refl _) (fun _ h => h) (fun _ _ => .inl rfl) hw (fun _ _ h => h)
    have hh : AV.hasAny t xs = false := by have := AV.hasAny_get ht e1; simpa [AV.has] using this
    refine VA.slot (t := t) (fun u hu b hb => ?_) h1 (AV.hasAny_get hh hx)
    simp only [ml'] at hb
    rw [if_neg hu] at hb
    exact hb

end

end Go.Proofs.Rv
