/- RvImgA: what the image package computes, in plain Lean. -/
import Derived.Test.YtjnhijpophmmgaaRvBusA
set_option linter.unusedVariables false
set_option linter.unusedSimpArgs false
namespace Go.Proofs.Rv
open Go

/-- The same, where slots may be frozen too. -/
theorem Le.mkL {s s' : St} (F : Nat → Prop) (tm : leA F s.h s.tm s'.tm) (loc : ∀ t cs, lkL s'.loc t = some cs → ∃ cs', lkL s.loc t = some cs' ∧ cs'.length = cs.length ∧ FzL F s.h cs' cs) (h : HFz F s.h s'.h) : Le s s' := by
  refine ⟨F, (leA_get tm).1, fun i x y hx hy => ?_, fun t cs hc => loc t cs hc, h, fun i x hd hx => ?_⟩
  · rcases (leA_get tm).2 i x y hx hy with ⟨h, _⟩ | rfl
    · exact h
    · exact .refl _
  · have hi : i < s'.tm.length := by rw [← (leA_get tm).1]; exact (List.getElem?_eq_some_iff.1 hx).1
    rcases (leA_get tm).2 i x _ hx (List.getElem?_eq_getElem hi) with ⟨_, h⟩ | h
    · rw [h] at hd; cases hd
    · rw [List.getElem?_eq_getElem hi, h]

/-- A zone's content in an image. -/
structure ZA where
  wp : Int
  safe : Int
  done : Bool
  text : List UInt8

def zaL (z : ZA) : List FV := [.int .i64 z.wp, .int .i64 z.safe, .bool z.done, BL z.text]
def zsA (l : List ZA) : List FV := (l.map zaL).flatten
/-- A member of an image: nil if it is dead. -/
def mL : List ZA → FV
  | [] => .nils
  | z :: zs => .lst (zs.length + 1) (zsA (z :: zs))
theorem mL_cons {zs : List ZA} (h : zs ≠ []) : mL zs = .lst zs.length (zsA zs) := by
  cases zs with
  | nil => exact absurd rfl h
  | cons z zs => rfl
def msL (ms : List (List ZA)) : List FV := ms.map mL

theorem zaL_length (z : ZA) : (zaL z).length = 4 := rfl
theorem zsA_length (l : List ZA) : (zsA l).length = l.length * 4 := by
  induction l with
  | nil => rfl
  | cons a l ih => simp only [zsA, List.map_cons, List.flatten_cons, List.length_append, zaL_length, List.length_cons] at *; omega
theorem zsA_cons (a : ZA) (l : List ZA) : zsA (a :: l) = zaL a ++ zsA l := rfl
theorem zsA_append (l m : List ZA) : zsA (l ++ m) = zsA l ++ zsA m := by simp [zsA]
theorem zsA_one (z : ZA) : zsA [z] = zaL z := by simp [zsA]
theorem zsA_drop (l : List ZA) (i : Nat) : (zsA l).drop (i * 4) = zsA (l.drop i) := by
  induction i generalizing l with
  | zero => simp
  | succ i ih =>
    cases l with
    | nil => simp [zsA]
    | cons a l =>
      rw [zsA_cons, List.drop_append, List.drop_of_length_le (by rw [zaL_length]; omega), zaL_length, show (i + 1) * 4 - 4 = i * 4 by omega, ih]; rfl
theorem zsA_get {l : List ZA} {i : Nat} {x : ZA} (h : l[i]? = some x) : ((zsA l).drop (0 + i * 4)).take 4 = zaL x := by
  rw [Nat.zero_add, zsA_drop]
  obtain ⟨hi, rfl⟩ := List.getElem?_eq_some_iff.1 h
  rw [List.drop_eq_getElem_cons hi, zsA_cons, List.take_append_of_le_length (by simp [zaL_length]), List.take_of_length_le (by simp [zaL_length])]
theorem zsA_fit {l : List ZA} {i : Nat} (h : i < l.length) : 0 + i * 4 + 4 ≤ (zsA l).length := by rw [zsA_length]; omega

/-- A zone, as it is written. -/
def zB (z : ZA) : List UInt8 := wI z.wp ++ (wI z.safe ++ ([wF z.done] ++ (wI z.text.length ++ z.text)))
def zsB (l : List ZA) : List UInt8 := (l.map zB).flatten
def mB (zs : List ZA) : List UInt8 := wF zs.isEmpty :: zsB zs
def msB (ms : List (List ZA)) : List UInt8 := (ms.map mB).flatten
theorem zsB_append (l m : List ZA) : zsB (l ++ m) = zsB l ++ zsB m := by simp [zsB]
theorem msB_append (l m : List (List ZA)) : msB (l ++ m) = msB l ++ msB m := by simp [msB]
theorem zsB_one (z : ZA) : zsB [z] = zB z := by simp [zsB]
theorem msB_one (z : List ZA) : msB [z] = mB z := by simp [msB]

/-- A zone that may be. -/
structure ZA.good (ca bl : Int) (z : ZA) : Prop where
  w0 : 0 ≤ z.wp
  w1 : z.wp ≤ ca
  s0 : 0 ≤ z.safe
  s1 : z.safe ≤ z.wp
  t : (z.text.length : Int) = z.wp * bl
  d : z.done = true → z.safe = z.wp

def ZA.bad (bl : Int) (z : ZA) : Bool := decide ((z.text.length : Int) ≠ z.wp * bl) || (z.done && decide (z.wp ≠ z.safe))

/-- Reading a zone. -/
def Rd.za (ca bl : Int) (r : Rd) : ZA × Rd :=
  (⟨(r.int 0 ca).1, ((r.int 0 ca).2.int 0 (r.int 0 ca).1).1, ((r.int 0 ca).2.int 0 (r.int 0 ca).1).2.flag.1, (((r.int 0 ca).2.int 0 (r.int 0 ca).1).2.flag.2.bytes ((r.int 0 ca).1 * bl)).1⟩,
    (((r.int 0 ca).2.int 0 (r.int 0 ca).1).2.flag.2.bytes ((r.int 0 ca).1 * bl)).2)

theorem Rd.za_eats (ca bl : Int) (r : Rd) : Eats r (r.za ca bl).2 (zB (r.za ca bl).1) ∧ ((r.za ca bl).2.e = 0 → (r.za ca bl).1.bad bl = false → (r.za ca bl).1.good ca bl) := by
  obtain ⟨a1, b1, _⟩ := r.int_eats 0 ca
  obtain ⟨a2, b2, _⟩ := (r.int 0 ca).2.int_eats 0 (r.int 0 ca).1
  have a3 := ((r.int 0 ca).2.int 0 (r.int 0 ca).1).2.flag_eats
  obtain ⟨a4, _⟩ := ((r.int 0 ca).2.int 0 (r.int 0 ca).1).2.flag.2.bytes_eats ((r.int 0 ca).1 * bl)
  refine ⟨a1.trans (a2.trans (a3.trans a4)), fun he hb => ?_⟩
  simp only [Rd.za] at he hb ⊢
  have e3 := (a4.e he).1
  have e2 := (a3.e e3).1
  have e1 := (a2.e e2).1
  obtain ⟨u1, u2⟩ := b1 e1
  obtain ⟨v1, v2⟩ := b2 e2
  simp [ZA.bad] at hb
  exact ⟨u1, u2, v1, v2, hb.1, fun hd => (hb.2 hd).symm⟩

end Go.Proofs.Rv
