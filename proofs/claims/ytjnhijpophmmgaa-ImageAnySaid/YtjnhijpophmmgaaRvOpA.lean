/- RvOpA: operations that turn the memory, calls among them; 'opA', any operation, and its law. -/
import Derived.Test.YtjnhijpophmmgaaRvApp
import Derived.KernelRfl
set_option linter.unusedVariables false
set_option linter.unusedSimpArgs false
namespace Go.Proofs.Rv
open Go

def setK : List AV → Nat → AV → (List AV → Prop) → Prop
  | [], _, _, k => k []
  | x :: xs, 0, v, k => match x with
    | .dfr f ys => k (.dfr f ys :: xs)
    | _ => k (v :: xs)
  | x :: xs, n + 1, v, k => setK xs n v fun ys => k (x :: ys)

theorem setK_ok : ∀ {xs : List AV} {n : Nat} {v : AV} {k : List AV → Prop}, setK xs n v k → k (setL xs n v)
  | [], _, _, _, h => h
  | x :: xs, 0, v, k, h => by
    unfold setK at h; unfold setL
    split at h
    · exact h
    · rename_i hne; split
      · exact absurd rfl (hne _ _)
      · exact h
  | x :: xs, n + 1, v, k, h => setK_ok (xs := xs) (n := n) (k := fun ys => k (x :: ys)) h

def putK (tm : List AV) (dst : Option Nat) (v : AV) (k : List AV → Prop) : Prop :=
  match dst with
  | none => k tm
  | some d => setK tm d v k

theorem putK_ok {tm : List AV} {dst : Option Nat} {v : AV} {k : List AV → Prop} (h : putK tm dst v k) : k (putA tm dst v) := by
  cases dst with
  | none => exact h
  | some d => exact setK_ok h

def setLocK : List (Nat × List FV) → Nat → List FV → (List (Nat × List FV) → Prop) → Prop
  | [], t, cs, k => k [(t, cs)]
  | (u, x) :: l, t, cs, k => match Nat.beq u t with
    | true => k ((u, cs) :: l)
    | false => setLocK l t cs fun l' => k ((u, x) :: l')

theorem setLocK_ok : ∀ {l : List (Nat × List FV)} {t : Nat} {cs : List FV} {k : List (Nat × List FV) → Prop}, setLocK l t cs k → ∃ l', k l' ∧ ∀ u, lkL l' u = if u = t then some cs else lkL l u
  | [], t, cs, k, h => ⟨_, h, fun u => by
      by_cases e : u = t
      · subst e; simp [lkL]
      · have : Nat.beq t u = false := by
          cases hq : Nat.beq t u with
          | false => rfl
          | true => exact absurd (Nat.eq_of_beq_eq_true hq).symm e
        simp [lkL, this, e]⟩
  | (v, x) :: l, t, cs, k, h => by
    unfold setLocK at h
    split at h
    · rename_i e
      have e' : v = t := Nat.eq_of_beq_eq_true e
      subst e'
      refine ⟨_, h, fun u => ?_⟩
      by_cases e : u = v
      · subst e; simp [lkL]
      · have : Nat.beq v u = false := by
          cases hq : Nat.beq v u with
          | false => rfl
          | true => exact absurd (Nat.eq_of_beq_eq_true hq).symm e
        simp [lkL, this, e]
    · rename_i e
      obtain ⟨l', h1, h2⟩ := setLocK_ok (l := l) (t := t) (cs := cs) h
      refine ⟨_, h1, fun u => ?_⟩
      by_cases e2 : u = v
      · subst e2
        have : ¬ u = t := by rintro rfl; simp at e
        simp [lkL, this]
      · have : Nat.beq v u = false := by
          cases hq : Nat.beq v u with
          | false => rfl
          | true => exact absurd (Nat.eq_of_beq_eq_true hq).symm e2
        simp [lkL, this, h2]

def newA0 (gl : Nat → Bool) (s : St) (dst : Option Nat) (e es : Nat) (cells : List FV) (K : St → Prop) : Prop :=
  match dst with
  | none => False
  | some t => match gl t with
    | false => match AV.hasAny t s.tm with
      | true => False
      | false => setK s.tm t (.lp t 0) fun tm => setLocK s.loc t cells fun loc => K ⟨tm, loc, s.h⟩
    | true => NewK s.h fun o => setK s.tm t (.d (.ptr o 0)) fun tm => K ⟨tm, s.loc, s.h.upd o ⟨cells, e, es, false, false⟩⟩

/-- A new variable: a slot, or an object. -/
def newA (gl : Nat → Bool) (s : St) (dst : Option Nat) (e es : Nat) (cells : List FV) (K : St → Prop) : Prop :=
  match s with
  | ⟨tm, loc, hp⟩ =>
    match dst with
    | none => False
    | some t => match gl t with
      | false => match AV.hasAny t tm with
        | true => False
        | false => setK tm t (.lp t 0) fun tm => setLocK loc t cells fun loc => K ⟨tm, loc, hp⟩
      | true => NewK hp fun o => setK tm t (.d (.ptr o 0)) fun tm => K ⟨tm, loc, hp.upd o ⟨cells, e, es, false, false⟩⟩

theorem newA_old (gl : Nat → Bool) (s : St) (dst : Option Nat) (e es : Nat) (cells : List FV) (K : St → Prop) (hx_ : newA gl s dst e es cells K) : newA0 gl s dst e es cells K := by
  have e : (newA gl s dst e es cells K) = (newA0 gl s dst e es cells K) := by cases s; kernel_rfl
  exact e ▸ hx_
theorem newA_new (gl : Nat → Bool) (s : St) (dst : Option Nat) (e es : Nat) (cells : List FV) (K : St → Prop) (hx_ : newA0 gl s dst e es cells K) : newA gl s dst e es cells K := by
  have e : (newA0 gl s dst e es cells K) = (newA gl s dst e es cells K) := by cases s; kernel_rfl
  exact e ▸ hx_

/-- What an operation may turn, and has not turned. -/
def Eff (T : Nat → Prop) (h0 : Heap) (pd pds : Nat → Prop) (N : Nat) (Z : Nat → Prop) (m : Nat → Option Blk) (ml : Nat → Option Nat) (w : World) (N' : Nat) (Z' : Nat → Prop) (m' : Nat → Option Blk) (w' : World) : Prop :=
  ∃ TT SS, Stp TT SS N Z m w N' Z' m' w' ∧ (∀ o, TT o → (T o ∨ h0 o = none) ∧ ¬ pd o) ∧ ∀ b, SS b → ∃ t, ml t = some b ∧ ¬ pds t

section
variable {P : Program} {B0 N : Nat} {Z : Nat → Prop} {m : Nat → Option Blk} {ml : Nat → Option Nat} {w w' : World} {s : St} {a : Act} {T : Nat → Prop} {h0 : Heap} {pd pds : Nat → Prop}

theorem Eff.refl : Eff T h0 pd pds N Z m ml w N Z m w := ⟨fun _ => False, fun _ => False, Stp.refl _ _ _ _ _ _, fun _ h => h.elim, fun _ h => h.elim⟩
theorem Eff.grow (g : Grow w w') : Eff T h0 pd pds N Z m ml w N Z m w' := ⟨fun _ => False, fun _ => False, Stp.grow _ _ g, fun _ h => h.elim, fun _ h => h.elim⟩

theorem newA_ok (r : RR B0 N Z m ml s a w) {gl : Nat → Bool} {dst : Option Nat} {e es : Nat} {cells : List FV} {arr : Array Value} {K : St → Prop} (hr : Row N Z m w cells arr) (h : newA gl s dst e es cells K) :
    ∃ s' N' m' ml', K s' ∧ (∀ t, dst ≠ some t → ml' t = ml t) ∧ RR B0 N' Z m' ml' s' (a.put dst (.pointer (some ⟨w.heap.size, 0, none⟩))) (w.alloc (.cells arr e)) ∧ Eff T h0 pd pds N Z m ml w N' Z m' (w.alloc (.cells arr e)) := by
  replace h := newA_old _ _ _ _ _ _ _ h
  unfold newA0 at h
  split at h
  · exact h.elim
  · rename_i t
    split at h
    · split at h
      · exact h.elim
      · rename_i hno
        obtain ⟨loc', h2, h3⟩ := setLocK_ok (setK_ok h)
        obtain ⟨ml', e1, e2, r'⟩ := r.newSlot hno (ty := e) hr (Grow.alloc w _) (heap_alloc_new w _) (by simp) h3
        refine ⟨_, N, m, ml', h2, fun u hu => e2 u (fun e => hu (by rw [e])), r'.put (some t) (.lp t 0 _ fun b hb => ?_), Eff.grow (Grow.alloc w _)⟩
        rw [e1] at hb; cases hb; rfl
    · have hr' : cells.length ≤ arr.size ∧ ∀ (i : Nat) (x : FV), cells[i]? = some x → ∃ v, arr[i]? = some v ∧ VF N Z m w x v :=
        ⟨by rw [hr.1]; exact Nat.le_refl _, fun i x hx => by
          have hi : i < arr.size := by rw [hr.1]; exact (List.getElem?_eq_some_iff.1 hx).1
          exact ⟨arr[i], Array.getElem?_eq_getElem hi, hr.2 i x _ hx (Array.getElem?_eq_getElem hi)⟩⟩
      obtain ⟨hN, m', e1, r', hst⟩ := r.newObj (ty := e) (es := es) (ar := false) hr' (Grow.alloc w _) (heap_alloc_new w _)
      have k := setK_ok (h.get N hN)
      refine ⟨_, N + 1, m', ml, k, fun _ _ => rfl, r'.put (some t) (.d (.ptr _ _ _ (Nat.lt_succ_self N) fun b hb => ?_)), fun _ => False, fun _ => False, hst _ _, fun _ h => h.elim, fun _ h => h.elim⟩
      rw [e1] at hb; cases hb; rfl

end

end Go.Proofs.Rv
