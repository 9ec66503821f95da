/- RvBusA: the bus, in plain Lean. -/
import Derived.Test.YtjnhijpophmmgaaRvZn
set_option linter.unusedVariables false
set_option linter.unusedSimpArgs false
namespace Go.Proofs.Rv
open Go

structure BusA where
  devs : List DevA
  fuse : Int
  times : List Int
  turns : List Int
  down : Bool
  count : Int
  bad : Int

def DevA.none_ : DevA := ⟨[], 0, true, 0⟩
def BusA.there (b : BusA) (m : Int) : Bool := decide (0 ≤ m) && decide (m < b.devs.length)
def BusA.dev (b : BusA) (m : Int) : DevA := (b.devs[m.toNat]?).getD .none_
def BusA.setDev (b : BusA) (i : Nat) (d : DevA) : BusA := { b with devs := b.devs.set i d }
def BusA.loseAt (b : BusA) (i : Nat) : BusA := match b.times[i]?, b.devs[i]? with
  | some t, some d => if 0 ≤ t ∧ t < b.count then { b with devs := b.devs.set i d.kill, times := b.times.set i (-1) } else b
  | _, _ => b
def BusA.loseN (b : BusA) : Nat → BusA
  | 0 => b
  | i + 1 => (b.loseN i).loseAt i
def BusA.lose (b : BusA) : BusA := b.loseN b.times.length
def BusA.cmd1 (b : BusA) : BusA := { b with fuse := if 0 < b.fuse then b.fuse - 1 else b.fuse, count := IntKind.i64.wrap (b.count + 1) }
def BusA.command (b : BusA) (m : Int) : BusA × Int :=
  if b.there m = false then (b, 1) else if b.down = true then (b, 10) else if b.fuse = 0 then ({ b with down := true }, 10) else (b.cmd1.lose, 0)
def BusA.do_ (b : BusA) (m : Int) (g : DevA → DevA × Int) : BusA × Int :=
  if (b.command m).2 ≠ 0 then b.command m else ((b.command m).1.setDev m.toNat (g ((b.command m).1.dev m)).1, (g ((b.command m).1.dev m)).2)
def BusA.app (b : BusA) (m z : Int) (x : List UInt8) : BusA × Int := b.do_ m fun d => d.app z x
def BusA.finish (b : BusA) (m z : Int) : BusA × Int := b.do_ m fun d => d.finish z
def BusA.flush (b : BusA) (m : Int) : BusA × Int := b.do_ m DevA.flush
def BusA.read (b : BusA) (m z at_ n : Int) : BusA × List UInt8 × Int :=
  if (b.command m).2 ≠ 0 then ((b.command m).1, [], (b.command m).2)
  else ((b.command m).1.setDev m.toNat (((b.command m).1.dev m).read z at_ n).1, (((b.command m).1.dev m).read z at_ n).2)
def BusA.kill (b : BusA) (m n : Int) : BusA :=
  if b.there m = false then b else if n ≤ 0 then b.setDev m.toNat (b.dev m).kill else { b with times := b.times.set m.toNat (IntKind.i64.wrap (b.count + min n 1099511627776)) }
def BusA.new (members zones cap block limit : Int) : BusA :=
  ⟨List.replicate members.toNat (.new zones cap block limit), -1, List.replicate members.toNat (-1), List.replicate members.toNat 0, false, 0, 0⟩

structure BusA.ok (b : BusA) : Prop where
  t : b.times.length = b.devs.length
  n : b.turns.length = b.devs.length
  m : b.devs.length ≤ 16
  f : ∀ d ∈ b.devs, d.fit
  u0 : -1 ≤ b.fuse
  u1 : b.fuse ≤ 9223372036854775807

theorem DevA.count_fit {d : DevA} (h : d.fit) (e : Int) : (d.count e).fit := by unfold DevA.count; split <;> exact ⟨h.n, h.z⟩
theorem DevA.set_fit {d : DevA} (h : d.fit) (z : Int) {x : Zn} (hx : x.fit) : (d.set z x).fit := by
  refine ⟨by simp [DevA.set, h.n], fun y hy => ?_⟩
  simp only [DevA.set] at hy
  rcases List.mem_or_eq_of_mem_set hy with hy | hy
  · exact h.z y hy
  · rw [hy]; exact hx
theorem DevA.kill_fit {d : DevA} (h : d.fit) : d.kill.fit := ⟨h.n, h.z⟩
theorem DevA.app_fit {d : DevA} (h : d.fit) (z : Int) (b : List UInt8) : (d.app z b).1.fit := by
  unfold DevA.app
  split
  · exact DevA.count_fit h _
  · split
    · exact DevA.count_fit h _
    · rename_i h2
      split
      · exact DevA.count_fit h 8
      · exact DevA.set_fit h z (Zn.app_fit (h.at_ z) b (by omega))
theorem DevA.read_fit {d : DevA} (h : d.fit) (z at_ n : Int) : (d.read z at_ n).1.fit := by
  unfold DevA.read; split <;> exact DevA.count_fit h _
theorem DevA.finish_fit {d : DevA} (h : d.fit) (z : Int) : (d.finish z).1.fit := by
  unfold DevA.finish DevA.change
  split
  · exact DevA.count_fit h _
  · exact DevA.set_fit h z (Zn.finish_fit (h.at_ z))
theorem DevA.flush_fit {d : DevA} (h : d.fit) : d.flush.1.fit := by
  unfold DevA.flush
  split
  · exact h
  · refine ⟨by simp [h.n], fun x hx => ?_⟩
    obtain ⟨y, hy, rfl⟩ := List.mem_map.1 hx
    exact Zn.flush_fit (h.z y hy)

theorem BusA.setDev_ok {b : BusA} (h : b.ok) (i : Nat) {d : DevA} (hd : d.fit) : (b.setDev i d).ok := by
  refine ⟨by simp [setDev, h.t], by simp [setDev, h.n], by simp [setDev, h.m], fun x hx => ?_, h.u0, h.u1⟩
  simp only [setDev] at hx
  rcases List.mem_or_eq_of_mem_set hx with hx | hx
  · exact h.f x hx
  · rw [hx]; exact hd
theorem BusA.loseAt_ok {b : BusA} (h : b.ok) (i : Nat) : (b.loseAt i).ok ∧ (b.loseAt i).devs.length = b.devs.length ∧ (b.loseAt i).count = b.count := by
  unfold loseAt
  split
  · rename_i t d _ hd
    split
    · exact ⟨⟨by simp [h.t], by simp [h.n], by simp [h.m], fun x hx => by
        rcases List.mem_or_eq_of_mem_set hx with hx | hx
        · exact h.f x hx
        · rw [hx]; exact DevA.kill_fit (h.f d (List.mem_of_getElem? hd)), h.u0, h.u1⟩, by simp, rfl⟩
    · exact ⟨h, rfl, rfl⟩
  · exact ⟨h, rfl, rfl⟩
theorem BusA.loseN_ok {b : BusA} (h : b.ok) : ∀ i, (b.loseN i).ok ∧ (b.loseN i).devs.length = b.devs.length ∧ (b.loseN i).count = b.count
  | 0 => ⟨h, rfl, rfl⟩
  | i + 1 => by
    obtain ⟨h1, h2, h3⟩ := loseN_ok h i
    obtain ⟨g1, g2, g3⟩ := loseAt_ok h1 i
    exact ⟨g1, g2.trans h2, g3.trans h3⟩
/-- What comes later has not been turned. -/
theorem BusA.loseN_times (b : BusA) : ∀ (i j : Nat), i ≤ j → (b.loseN i).times[j]? = b.times[j]?
  | 0, _, _ => rfl
  | i + 1, j, h => by
    have ih := loseN_times b i j (by omega)
    simp only [loseN, loseAt]
    split
    · split
      · simp only; rw [List.getElem?_set_ne (by omega)]; exact ih
      · exact ih
    · exact ih
theorem BusA.cmd1_ok {b : BusA} (h : b.ok) : b.cmd1.ok := ⟨h.t, h.n, h.m, h.f, by simp only [cmd1]; have := h.u0; split <;> omega, by simp only [cmd1]; have := h.u1; split <;> omega⟩
theorem BusA.command_ok {b : BusA} (h : b.ok) (m : Int) : (b.command m).1.ok ∧ (b.command m).1.devs.length = b.devs.length ∧ ((b.command m).2 = 0 → 0 ≤ m ∧ m < b.devs.length) := by
  unfold command
  split
  · exact ⟨h, rfl, fun h => by simp at h⟩
  · rename_i h1
    split
    · exact ⟨h, rfl, fun h => by simp at h⟩
    · split
      · exact ⟨⟨h.t, h.n, h.m, h.f, h.u0, h.u1⟩, rfl, fun h => by simp at h⟩
      · obtain ⟨g1, g2, _⟩ := loseN_ok (cmd1_ok h) b.cmd1.times.length
        refine ⟨g1, g2, fun _ => ?_⟩
        simp [there] at h1; exact h1
theorem BusA.dev_get {b : BusA} {m : Int} (h0 : 0 ≤ m) (h1 : m < b.devs.length) : b.devs[m.toNat]? = some (b.dev m) := by
  unfold dev; rw [List.getElem?_eq_getElem (by omega)]; rfl
theorem BusA.dev_fit {b : BusA} (h : b.ok) {m : Int} (h0 : 0 ≤ m) (h1 : m < b.devs.length) : (b.dev m).fit := h.f _ (List.mem_of_getElem? (dev_get h0 h1))

end Go.Proofs.Rv
