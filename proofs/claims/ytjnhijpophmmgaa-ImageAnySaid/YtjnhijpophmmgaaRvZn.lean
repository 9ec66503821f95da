/- RvZn: zones, members and the bus, in plain Lean. -/
import Derived.Test.YtjnhijpophmmgaaRvModel
set_option linter.unusedVariables false
set_option linter.unusedSimpArgs false
namespace Go.Proofs.Rv
open Go

/-- A zone of a member. -/
structure Zn where
  cap : Int
  block : Int
  data : List UInt8
  safe : Int
  done : Bool

def Zn.zero : Zn := ⟨0, 0, [], 0, false⟩
def Zn.wp (z : Zn) : Int := (z.data.length : Int) / max z.block 1
def Zn.new (cap block : Int) : Zn := ⟨min (max cap 1) 4096, min (max block 1) 4096, [], 0, false⟩
def Zn.active (z : Zn) : Bool := !z.done && (decide (0 < z.wp) && decide (z.wp < z.cap))
def Zn.app (z : Zn) (b : List UInt8) : Zn × Int :=
  if b.length = 0 ∨ (b.length : Int) % max z.block 1 ≠ 0 then (.zero, 3)
  else if z.done = true ∨ z.cap - z.wp < (b.length : Int) / max z.block 1 then (.zero, 6)
  else ({ z with data := z.data ++ b }, 0)
def Zn.read (z : Zn) (at_ n : Int) : List UInt8 × Int :=
  if at_ < 0 ∨ n < 0 ∨ z.wp < at_ ∨ z.wp - at_ < n then ([], 4)
  else ((z.data.drop (at_ * max z.block 1).toNat).take (n * max z.block 1).toNat, 0)
def Zn.flush (z : Zn) : Zn := { z with safe := z.wp }
def Zn.finish (z : Zn) : Zn := { z.flush with done := true }

/-- Numbers that are not too great. -/
structure Zn.fit (z : Zn) : Prop where
  c0 : 0 ≤ z.cap
  c1 : z.cap ≤ 4096
  b0 : 0 ≤ z.block
  b1 : z.block ≤ 4096
  m : (z.data.length : Int) % max z.block 1 = 0
  l : (z.data.length : Int) ≤ z.cap * max z.block 1

theorem Zn.wp0 (z : Zn) : 0 ≤ z.wp := Int.ediv_nonneg (by omega) (by omega)
theorem Zn.wp_le (z : Zn) : z.wp ≤ z.data.length := Int.ediv_le_self _ (by omega)
theorem Zn.wp_mul (z : Zn) : z.wp * max z.block 1 ≤ z.data.length := Int.ediv_mul_le _ (by omega)
theorem Zn.fit.d {z : Zn} (h : z.fit) : z.data.length ≤ 16777216 := by
  have h1 := h.l
  have h2 := h.c1
  have h3 := h.b1
  have : z.cap * max z.block 1 ≤ 4096 * 4096 := Int.mul_le_mul h.c1 (by omega) (by omega) (by omega)
  omega
theorem Zn.fit.wm {z : Zn} (h : z.fit) : z.wp * max z.block 1 = z.data.length := by
  have := Int.mul_ediv_add_emod (z.data.length : Int) (max z.block 1)
  rw [h.m, Int.mul_comm] at this
  simp only [Zn.wp]; omega
theorem Zn.fit.wc {z : Zn} (h : z.fit) : z.wp ≤ z.cap := by
  have h1 := h.l
  rw [← h.wm] at h1
  exact Int.le_of_mul_le_mul_right h1 (by omega)
theorem Zn.new_fit (cap block : Int) : (Zn.new cap block).fit :=
  ⟨by simp only [Zn.new]; omega, by simp only [Zn.new]; omega, by simp only [Zn.new]; omega, by simp only [Zn.new]; omega, by simp [Zn.new], by simp only [Zn.new]; exact Int.mul_nonneg (by omega) (by omega)⟩
theorem Zn.flush_fit {z : Zn} (h : z.fit) : z.flush.fit := ⟨h.c0, h.c1, h.b0, h.b1, h.m, h.l⟩
theorem Zn.finish_fit {z : Zn} (h : z.fit) : z.finish.fit := ⟨h.c0, h.c1, h.b0, h.b1, h.m, h.l⟩
theorem Zn.app_fit {z : Zn} (h : z.fit) (b : List UInt8) (e : (z.app b).2 = 0) : (z.app b).1.fit := by
  unfold Zn.app at e ⊢
  split at e
  · cases e
  · rename_i h1
    split at e
    · cases e
    · rename_i h2
      rw [if_neg h1, if_neg h2]
      have hm : (b.length : Int) % max z.block 1 = 0 := Classical.byContradiction fun hc => h1 (.inr hc)
      have hl : (b.length : Int) / max z.block 1 ≤ z.cap - z.wp := by
        exact Int.not_lt.1 fun hc => h2 (.inr hc)
      have hb : (b.length : Int) / max z.block 1 * max z.block 1 = b.length := by
        have := Int.mul_ediv_add_emod (b.length : Int) (max z.block 1)
        rw [hm, Int.mul_comm] at this; omega
      refine ⟨h.c0, h.c1, h.b0, h.b1, ?_, ?_⟩
      · simp only [List.length_append]
        rw [Int.natCast_add, Int.add_emod, h.m, hm]; simp
      · simp only [List.length_append]
        rw [Int.natCast_add, ← h.wm, ← hb, ← Int.add_mul]
        exact Int.mul_le_mul_of_nonneg_right (by omega) (by omega)

/-- A list, of which the first ones are turned. -/
def mapTo {α : Type} (f : α → α) (l : List α) (i : Nat) : List α := (l.take i).map f ++ l.drop i
theorem mapTo_zero {α : Type} (f : α → α) (l : List α) : mapTo f l 0 = l := by simp [mapTo]
theorem mapTo_all {α : Type} (f : α → α) (l : List α) : mapTo f l l.length = l.map f := by simp [mapTo]
theorem mapTo_len {α : Type} (f : α → α) (l : List α) {i : Nat} (h : i ≤ l.length) : (mapTo f l i).length = l.length := by simp [mapTo]; omega
theorem mapTo_get {α : Type} (f : α → α) (l : List α) {i : Nat} (h : i < l.length) : (mapTo f l i)[i]? = some l[i] := by
  have hl : ((l.take i).map f).length = i := by simp; omega
  rw [mapTo, List.getElem?_append_right (by omega), hl, Nat.sub_self, List.getElem?_drop, Nat.add_zero, List.getElem?_eq_getElem h]
theorem mapTo_set {α : Type} (f : α → α) (l : List α) {i : Nat} (h : i < l.length) : (mapTo f l i).set i (f l[i]) = mapTo f l (i + 1) := by
  have hl : ((l.take i).map f).length = i := by simp; omega
  rw [mapTo, mapTo, List.set_append_right _ _ (by omega), hl, Nat.sub_self, List.take_succ_eq_append_getElem h, List.drop_eq_getElem_cons h, List.set_cons_zero, List.map_append, List.append_assoc]; rfl

/-- A member. -/
structure DevA where
  zones : List Zn
  limit : Int
  dead : Bool
  bad : Int

def DevA.right (d : DevA) (z : Int) : Int := if d.dead = true then 11 else if z < 0 ∨ (d.zones.length : Int) ≤ z then 2 else 0
def DevA.count (d : DevA) (e : Int) : DevA := if e = 2 ∨ e = 3 ∨ e = 6 ∨ e = 4 ∨ e = 8 then { d with bad := IntKind.i64.wrap (d.bad + 1) } else d
def DevA.active (d : DevA) : Int := if d.dead = true then 0 else ((d.zones.countP Zn.active : Nat) : Int)
def DevA.at_ (d : DevA) (z : Int) : Zn := (d.zones[z.toNat]?).getD .zero
def DevA.set (d : DevA) (z : Int) (x : Zn) : DevA := { d with zones := d.zones.set z.toNat x }
def DevA.app (d : DevA) (z : Int) (b : List UInt8) : DevA × Int :=
  if d.right z ≠ 0 then (d.count (d.right z), d.right z)
  else if ((d.at_ z).app b).2 ≠ 0 then (d.count ((d.at_ z).app b).2, ((d.at_ z).app b).2)
  else if ((d.at_ z).app b).1.active = true ∧ (d.at_ z).active = false ∧ d.limit ≤ d.active then (d.count 8, 8)
  else (d.set z ((d.at_ z).app b).1, 0)
def DevA.read (d : DevA) (z at_ n : Int) : DevA × List UInt8 × Int :=
  if d.right z ≠ 0 then (d.count (d.right z), [], d.right z)
  else (d.count ((d.at_ z).read at_ n).2, (d.at_ z).read at_ n)
def DevA.flush (d : DevA) : DevA × Int := if d.right 0 ≠ 0 then (d, d.right 0) else ({ d with zones := d.zones.map Zn.flush }, 0)
def DevA.change (d : DevA) (z : Int) (g : Zn → Zn) : DevA × Int := if d.right z ≠ 0 then (d.count (d.right z), d.right z) else (d.set z (g (d.at_ z)), 0)
def DevA.finish (d : DevA) (z : Int) : DevA × Int := d.change z Zn.finish
def DevA.kill (d : DevA) : DevA := { d with dead := true }
def DevA.new (zones cap block limit : Int) : DevA := ⟨List.replicate zones.toNat (.new cap block), limit, false, 0⟩

structure DevA.fit (d : DevA) : Prop where
  n : d.zones.length ≤ 64
  z : ∀ x ∈ d.zones, x.fit

theorem DevA.fit.at_ {d : DevA} (h : d.fit) (z : Int) : (d.at_ z).fit := by
  unfold DevA.at_
  cases e : d.zones[z.toNat]? with
  | none => exact ⟨by decide, by decide, by decide, by decide, by decide, by decide⟩
  | some x => exact h.z x (List.mem_of_getElem? e)
theorem DevA.right_ok {d : DevA} {z : Int} (h : d.right z = 0) : d.dead = false ∧ 0 ≤ z ∧ z < d.zones.length ∧ d.zones[z.toNat]? = some (d.at_ z) := by
  unfold DevA.right at h
  split at h
  · cases h
  · rename_i h1
    split at h
    · cases h
    · rename_i h2
      have : z.toNat < d.zones.length := by omega
      exact ⟨by simpa using h1, by omega, by omega, by unfold DevA.at_; rw [List.getElem?_eq_getElem this]; rfl⟩

end Go.Proofs.Rv
