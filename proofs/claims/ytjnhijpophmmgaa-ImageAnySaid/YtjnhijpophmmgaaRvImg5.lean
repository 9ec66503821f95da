/- RvImg5: what functions of the program that the law reaches compute, each stated as a contract, for the law ImageAny. -/
import Derived.Test.YtjnhijpophmmgaaRvImg4
set_option linter.unusedVariables false
set_option linter.unusedSimpArgs false
namespace Go.Proofs.Ytjnhijpophmmgaa
open Go Go.Proofs.Rv
set_option maxRecDepth 20000

theorem BusA.do_ok {b : BusA} (hb : b.ok) (m : Int) (g : DevA → DevA × Int) (hfit : ∀ d : DevA, d.fit → (g d).1.fit) : (b.do_ m g).1.ok := by
  obtain ⟨h1, h2, h3⟩ := BusA.command_ok hb m
  unfold BusA.do_
  split
  · exact h1
  · rename_i he
    obtain ⟨r0, r1⟩ := h3 (Classical.not_not.1 he)
    exact BusA.setDev_ok h1 _ (hfit _ (BusA.dev_fit h1 r0 (by rw [h2]; exact r1)))

/-- A bus that is being filled. -/
structure Fill (ms : List (List ZA)) (ac : Nat) (f : Nat → Nat → ZA → Zn) (b : BusA) : Prop where
  ok : b.ok
  n : b.devs.length = ms.length
  down : b.down = false
  fuse : b.fuse = -1
  times : ∀ t ∈ b.times, t = -1
  dev : ∀ (i : Nat) (d : DevA), b.devs[i]? = some d → d.dead = false ∧ d.zones.length = ac
  z : ∀ (i : Nat) (zs : List ZA) (j : Nat) (z : ZA) (d : DevA), ms[i]? = some zs → zs[j]? = some z → b.devs[i]? = some d → d.zones[j]? = some (f i j z)

theorem Fill.congr {ms : List (List ZA)} {ac : Nat} {f f' : Nat → Nat → ZA → Zn} {b : BusA} (h : Fill ms ac f b) (e : ∀ (i : Nat) (zs : List ZA) (j : Nat) (z : ZA), ms[i]? = some zs → zs[j]? = some z → f i j z = f' i j z) : Fill ms ac f' b :=
  ⟨h.ok, h.n, h.down, h.fuse, h.times, h.dev, fun i zs j z d h1 h2 h3 => by rw [← e i zs j z h1 h2]; exact h.z i zs j z d h1 h2 h3⟩

def putA (b : BusA) (m z : Int) (x : List UInt8) : BusA × Int := if x = [] then (b, 0) else b.app m z x

theorem Fill.set {ms : List (List ZA)} {ac : Nat} {f f' : Nat → Nat → ZA → Zn} {b : BusA} (h : Fill ms ac f b) {i j : Nat} {zs : List ZA} {z : ZA} (hi : ms[i]? = some zs) (hj : zs[j]? = some z) (k : Int) (y : Zn)
    (ok : (({ b with count := k } : BusA).setDev i ((b.dev i).set j y)).ok) (h1 : f' i j z = y)
    (h2 : ∀ (i' : Nat) (zs : List ZA) (j' : Nat) (z : ZA), ms[i']? = some zs → zs[j']? = some z → (i' ≠ i ∨ j' ≠ j) → f' i' j' z = f i' j' z) : Fill ms ac f' (({ b with count := k } : BusA).setDev i ((b.dev i).set j y)) := by
  have il := (List.getElem?_eq_some_iff.1 hi).1
  have ib : i < b.devs.length := by rw [h.n]; exact il
  have hd : b.devs[i]? = some (b.dev i) := BusA.dev_get (m := i) (by omega) (by omega)
  obtain ⟨d1, d2⟩ := h.dev i _ hd
  have hz := h.z i zs j z _ hi hj hd
  refine ⟨ok, by simp [BusA.setDev, h.n], h.down, h.fuse, h.times, fun i' d hd' => ?_, fun i' zs' j' z' d hi' hj' hd' => ?_⟩
  · by_cases e : i' = i
    · subst e
      simp [BusA.setDev, ib] at hd'
      subst hd'
      exact ⟨d1, by simp [DevA.set, d2]⟩
    · simp only [BusA.setDev] at hd'
      rw [List.getElem?_set_ne (fun hh => e hh.symm)] at hd'
      exact h.dev i' d hd'
  · by_cases e : i' = i
    · subst e
      rw [hi] at hi'; cases hi'
      simp [BusA.setDev, ib] at hd'
      subst hd'
      by_cases ej : j' = j
      · subst ej
        rw [hj] at hj'; cases hj'
        have := (List.getElem?_eq_some_iff.1 hz).1
        simp [DevA.set, this, h1]
      · simp only [DevA.set, Int.toNat_natCast]
        rw [List.getElem?_set_ne (fun hh => ej hh.symm), h2 i' zs j' z' hi hj' (.inr ej)]
        exact h.z i' zs j' z' _ hi hj' hd
    · simp only [BusA.setDev] at hd'
      rw [List.getElem?_set_ne (fun hh => e hh.symm)] at hd'
      rw [h2 i' zs' j' z' hi' hj' (.inl e)]
      exact h.z i' zs' j' z' d hi' hj' hd'

theorem Fill.up {ms : List (List ZA)} {ac : Nat} {f : Nat → Nat → ZA → Zn} {b : BusA} (h : Fill ms ac f b) {i j : Nat} {zs : List ZA} {z : ZA} (hi : ms[i]? = some zs) (hj : zs[j]? = some z) :
    b.command i = ({ b with count := IntKind.i64.wrap (b.count + 1) }, 0) ∧ (b.dev i).right j = 0 ∧ (b.dev i).at_ j = f i j z := by
  have il := (List.getElem?_eq_some_iff.1 hi).1
  have ib : i < b.devs.length := by rw [h.n]; exact il
  have hd : b.devs[i]? = some (b.dev i) := BusA.dev_get (m := i) (by omega) (by omega)
  obtain ⟨d1, d2⟩ := h.dev i _ hd
  have hz := h.z i zs j z _ hi hj hd
  have hl := (List.getElem?_eq_some_iff.1 hz).1
  refine ⟨command_up h.down h.fuse h.times (by omega) (by omega), ?_, ?_⟩
  · unfold DevA.right; rw [if_neg (by rw [d1]; simp), if_neg (by omega)]
  · unfold DevA.at_; rw [Int.toNat_natCast, hz]; rfl

theorem Fill.put {ms : List (List ZA)} {ac : Nat} {f f' : Nat → Nat → ZA → Zn} {b : BusA} (h : Fill ms ac f b) {i j : Nat} {zs : List ZA} {z : ZA} (hi : ms[i]? = some zs) (hj : zs[j]? = some z) (x : List UInt8)
    (h0 : (putA b i j x).2 = 0) (h1 : f' i j z = { f i j z with data := (f i j z).data ++ x })
    (h2 : ∀ (i' : Nat) (zs : List ZA) (j' : Nat) (z : ZA), ms[i']? = some zs → zs[j']? = some z → (i' ≠ i ∨ j' ≠ j) → f' i' j' z = f i' j' z) : Fill ms ac f' (putA b i j x).1 := by
  unfold putA at h0 ⊢
  split
  · rename_i hx
    subst hx
    refine h.congr fun i' zs' j' z' hi' hj' => ?_
    by_cases e : i' = i ∧ j' = j
    · obtain ⟨rfl, rfl⟩ := e
      rw [hi] at hi'; cases hi'
      rw [hj] at hj'; cases hj'
      rw [h1, List.append_nil]
    · exact (h2 i' zs' j' z' hi' hj' (by omega)).symm
  · rename_i hx
    rw [if_neg hx] at h0
    obtain ⟨u1, u2, u3⟩ := h.up hi hj
    have ok := BusA.do_ok h.ok i (fun d => d.app j x) (fun d hd => DevA.app_fit hd j x)
    unfold BusA.app at h0 ⊢
    unfold BusA.do_ at h0 ok ⊢
    rw [u1] at h0 ok ⊢
    dsimp only at h0 ok ⊢
    rw [if_neg (by simp)] at h0 ok ⊢
    dsimp only at h0 ok ⊢
    have hd' : (({ b with count := IntKind.i64.wrap (b.count + 1) } : BusA).dev i) = b.dev i := rfl
    rw [hd'] at h0 ok ⊢
    have ha : ((b.dev i).app j x).1 = (b.dev i).set j { f i j z with data := (f i j z).data ++ x } := by
      unfold DevA.app at h0 ⊢
      rw [if_neg (by rw [u2]; simp)] at h0 ⊢
      rw [u3] at h0 ⊢
      split at h0
      · rename_i hh; exact absurd h0 hh
      · rename_i hh
        rw [if_neg hh]
        split at h0
        · cases h0
        · rename_i hh2
          rw [if_neg hh2]
          dsimp only
          congr 1
          unfold Zn.app at hh ⊢
          split
          · rename_i h3; rw [if_pos h3] at hh; exact absurd (by decide) hh
          · rename_i h3
            split
            · rename_i h4; rw [if_neg h3, if_pos h4] at hh; exact absurd (by decide) hh
            · rfl
    rw [ha] at ok ⊢
    exact h.set hi hj _ _ ok h1 h2

theorem Fill.fin {ms : List (List ZA)} {ac : Nat} {f f' : Nat → Nat → ZA → Zn} {b : BusA} (h : Fill ms ac f b) {i j : Nat} {zs : List ZA} {z : ZA} (hi : ms[i]? = some zs) (hj : zs[j]? = some z)
    (h1 : f' i j z = (f i j z).finish)
    (h2 : ∀ (i' : Nat) (zs : List ZA) (j' : Nat) (z : ZA), ms[i']? = some zs → zs[j']? = some z → (i' ≠ i ∨ j' ≠ j) → f' i' j' z = f i' j' z) : (b.finish i j).2 = 0 ∧ Fill ms ac f' (b.finish i j).1 := by
  obtain ⟨u1, u2, u3⟩ := h.up hi hj
  have ok := BusA.do_ok h.ok i (fun d => d.finish j) (fun d hd => DevA.finish_fit hd j)
  unfold BusA.finish
  unfold BusA.do_ at ok ⊢
  rw [u1] at ok ⊢
  dsimp only at ok ⊢
  rw [if_neg (by simp)] at ok ⊢
  dsimp only at ok ⊢
  have hd' : (({ b with count := IntKind.i64.wrap (b.count + 1) } : BusA).dev i) = b.dev i := rfl
  rw [hd'] at ok ⊢
  have ha : (b.dev i).finish j = ((b.dev i).set j (f i j z).finish, 0) := by
    unfold DevA.finish DevA.change
    rw [if_neg (by rw [u2]; simp), u3]
  rw [ha] at ok ⊢
  exact ⟨rfl, h.set hi hj _ _ ok h1 h2⟩

theorem Fill.flush {ms : List (List ZA)} {ac : Nat} {f f' : Nat → Nat → ZA → Zn} {b : BusA} (h : Fill ms ac f b) (ha : 0 < ac) {i : Nat} (hi : i < ms.length)
    (h1 : ∀ j z, f' i j z = (f i j z).flush) (h2 : ∀ i' j z, i' ≠ i → f' i' j z = f i' j z) : (b.flush i).2 = 0 ∧ Fill ms ac f' (b.flush i).1 := by
  have ib : i < b.devs.length := by rw [h.n]; exact hi
  have hd : b.devs[i]? = some (b.dev i) := BusA.dev_get (m := i) (by omega) (by omega)
  obtain ⟨d1, d2⟩ := h.dev i _ hd
  have u1 := command_up h.down h.fuse h.times (m := i) (by omega) (by omega)
  have ok := BusA.do_ok h.ok i DevA.flush (fun d hd => DevA.flush_fit hd)
  unfold BusA.flush
  unfold BusA.do_ at ok ⊢
  rw [u1] at ok ⊢
  dsimp only at ok ⊢
  rw [if_neg (by simp)] at ok ⊢
  dsimp only at ok ⊢
  have hd' : (({ b with count := IntKind.i64.wrap (b.count + 1) } : BusA).dev i) = b.dev i := rfl
  rw [hd'] at ok ⊢
  have hr : (b.dev i).right 0 = 0 := by unfold DevA.right; rw [if_neg (by rw [d1]; simp), if_neg (by omega)]
  have hf : (b.dev i).flush = ({ b.dev i with zones := (b.dev i).zones.map Zn.flush }, 0) := by
    unfold DevA.flush; rw [if_neg (by rw [hr]; simp)]
  rw [hf] at ok ⊢
  refine ⟨rfl, ok, by simp [BusA.setDev, h.n], h.down, h.fuse, h.times, fun i' d hd' => ?_, fun i' zs' j' z' d hi' hj' hd' => ?_⟩
  · by_cases e : i' = i
    · subst e
      simp [BusA.setDev, ib] at hd'
      subst hd'
      exact ⟨d1, by simp [d2]⟩
    · simp only [BusA.setDev, Int.toNat_natCast] at hd'
      rw [List.getElem?_set_ne (fun hh => e hh.symm)] at hd'
      exact h.dev i' d hd'
  · by_cases e : i' = i
    · subst e
      simp [BusA.setDev, ib] at hd'
      subst hd'
      have := h.z i' zs' j' z' _ hi' hj' hd
      simp [this, h1]
    · simp only [BusA.setDev, Int.toNat_natCast] at hd'
      rw [List.getElem?_set_ne (fun hh => e hh.symm)] at hd'
      rw [h2 i' j' z' e]
      exact h.z i' zs' j' z' d hi' hj' hd'

theorem Fill.new {ms : List (List ZA)} {ac : Nat} {c : Cf} (hc : Good c) (hm : (ms.length : Int) = c.me) (ha : c.mt + c.zo + c.sp = ac) (hz : ∀ zs ∈ ms, zs = [] ∨ zs.length = ac) (ok : (BusA.new c.me ac c.ca c.bl c.li).ok) : Fill ms ac (fun _ _ _ => .new c.ca c.bl) (.new c.me ac c.ca c.bl c.li) := by
  refine ⟨ok, by simp [BusA.new]; omega, rfl, rfl, fun t ht => ?_, fun i d hd => ?_, fun i zs j z d hi hj hd => ?_⟩
  · simp [BusA.new] at ht; exact ht.2
  · simp [BusA.new] at hd
    rw [List.getElem?_replicate] at hd
    split at hd
    · cases hd; exact ⟨rfl, by simp [DevA.new]⟩
    · cases hd
  · simp [BusA.new] at hd
    rw [List.getElem?_replicate] at hd
    split at hd
    · cases hd
      have hjl := (List.getElem?_eq_some_iff.1 hj).1
      rcases hz zs (List.mem_of_getElem? hi) with h | h
      · rw [h] at hjl; simp at hjl
      · simp only [DevA.new, Int.toNat_natCast]
        rw [List.getElem?_replicate, if_pos (by omega)]
    · cases hd

/-- The closures of 'lay' that put bytes into a zone. -/
theorem iput_c {h : Heap} {L : BusL} {b : BusA} (hb : BusAt h L b) (t3 : Nat) (h3 : h t3 = some ⟨[.ptr L.o 0], 24, 1, false, false⟩) (i j : Int) (x : List UInt8) (hx : x.length ≤ 274877906944) (K : AV → Heap → Prop)
    (hK : K (.d (.int .i64 (putA b i j x).2)) (h.over (busH L (putA b i j x).1))) :
    C Try.prog (fun q => q ∈ L.all) 33 [.d (.int .i64 i), .d (.int .i64 j), .d (BL x), .d (.ptr t3 0)] h K := by
  unfold putA at hK
  refine C.of_body lay layf mixed (gl := fun _ => false) (dr := fun _ => none) _ _ _ Try.func33 rfl rfl rfl rfl rfl rfl ?_
  conv => whnf
  refine GB.mk (fun hcc => ?_) (fun hcc => ?_)
  · have hx0 : x = [] := List.eq_nil_of_length_eq_zero (by simpa using hcc)
    rw [if_pos hx0] at hK
    dsimp only at hK
    rw [hb.self] at hK
    conv => whnf
    exact Fin.same hK
  · have hx0 : x ≠ [] := fun hh => by rw [hh] at hcc; simp at hcc
    rw [if_neg hx0] at hK
    conv => whnf
    refine ObjK.mk _ (h3) ?_
    conv => whnf
    refine CallX.mk (fun q => q ∈ L.all) (fun q hq => ⟨.inl hq, id⟩) (bappend_c hb i j x hx _ ?_)
    conv => whnf
    exact Fin.same hK
end Go.Proofs.Ytjnhijpophmmgaa
