/- RvImg4: what functions of the program that the law reaches compute, each stated as a contract, for the law ImageAny. -/
import Derived.Test.YtjnhijpophmmgaaRvImg3
set_option linter.unusedVariables false
set_option linter.unusedSimpArgs false
namespace Go.Proofs.Ytjnhijpophmmgaa
open Go Go.Proofs.Rv
set_option maxRecDepth 20000

/-- Every zone of every living member, in order. -/
theorem ieach_c {T : Nat → Prop} (h : Heap) (ms : List (List ZA)) (f a b : Nat) (G : Nat → Nat → Heap → Prop) (E : Heap → Prop) (hg : G 0 0 h)
    (hnext : ∀ i zs h, ms[i]? = some zs → G i zs.length h → G (i + 1) 0 h)
    (hstep : ∀ i zs j z h', ms[i]? = some zs → zs[j]? = some z → G i j h' → ∀ K : AV → Heap → Prop, (∀ h2, G i (j + 1) h2 → K (.d (.int .i64 0)) h2) → (∀ (e : Int) h2, e ≠ 0 → E h2 → K (.d (.int .i64 e)) h2) →
      C Try.prog T f [.d (.int .i64 i), .d (.int .i64 j), .agg (zaL z), .d (.ptr a 0), .d (.ptr b 0)] h' K)
    (hl : ms.length ≤ 16) (hz : ∀ zs ∈ ms, zs.length ≤ 64) (K : AV → Heap → Prop) (hK : ∀ h2, G ms.length 0 h2 → K (.d (.int .i64 0)) h2) (hE : ∀ (e : Int) h2, e ≠ 0 → E h2 → K (.d (.int .i64 e)) h2) :
    C Try.prog T 40 [.d (.lst ms.length (msL ms)), .d (.fn f [.ptr a 0, .ptr b 0])] h K := by
  refine C.of_body lay layf mixed (gl := fun _ => false) (dr := fun _ => none) _ _ _ Try.func40 rfl rfl rfl rfl rfl rfl ?_
  conv => whnf
  refine LoopX.mk lay layf mixed (gl := fun _ => false) (dr := fun _ => none) (α := {s : Nat × Heap // s.1 ≤ ms.length ∧ G s.1 0 s.2})
    (fun s => ⟨[.undef, .d (.fn f [.ptr a 0, .ptr b 0]), .undef, .undef, .undef, .undef, .undef, .undef, .undef, .undef, .d (.lst ms.length (msL ms)), .d (.int .i64 ms.length), .d (.int .i64 s.1.1), .undef, .undef, .undef, .undef, .undef, .undef, .undef, .undef, .undef, .undef, .undef, .undef, .undef, .undef, .undef, .undef, .undef, .undef, .undef, .undef, .undef, .undef], [], s.1.2⟩)
    (fun s => ms.length - s.1.1) ⟨(0, h), Nat.zero_le _, hg⟩ (Le.of (by simp [leT]) (fun _ _ h => h) (fun _ _ h => h)) rfl ?_
  rintro ⟨⟨i, h1⟩, ⟨hi, g1⟩⟩
  dsimp only at hi g1 ⊢
  conv => whnf
  refine GB.mk (fun hcc => ?_) (fun hcc => ?_)
  · simp only [decide_eq_true_eq] at hcc
    have hil : i < ms.length := by omega
    obtain ⟨zs, hzs⟩ : ∃ zs, ms[i]? = some zs := ⟨_, List.getElem?_eq_getElem hil⟩
    have hz64 := hz zs (List.mem_of_getElem? hzs)
    conv => whnf
    refine Rq.mk (by omega) ?_
    conv => whnf
    refine SubO.mk [mL zs] (by simpa [msL] using get_one mL ms i zs hzs) (by simp [msL]; omega) ?_
    conv => whnf
    refine Rq.mk (by first | exact id | exact notMem rfl) ?_
    conv => whnf
    rcases (show zs = [] ∨ zs ≠ [] from by cases zs <;> simp) with hz0 | hz0
    · subst hz0
      conv => whnf
      refine LoopX.unroll lay layf mixed (gl := fun _ => false) (dr := fun _ => none) 1 rfl ?_
      conv => whnf
      refine GB.mk (fun h => absurd h (by decide)) (fun _ => ?_)
      conv => whnf
      refine Wr.i64 (y := ((i + 1 : Nat) : Int)) (by omega) (by omega) (by omega) ?_
      conv => whnf
      refine ⟨⟨(i + 1, h1), by omega, hnext i [] h1 hzs g1⟩, by simp; omega, Le.of (by simp [leT, mL]) (lkL_app [] _) (fun _ _ h => h)⟩
    rw [mL_cons hz0]
    conv => whnf
    refine LoopX.mk lay layf mixed (gl := fun _ => false) (dr := fun _ => none) (α := {s : Nat × Heap // s.1 ≤ zs.length ∧ G i s.1 s.2})
      (fun s => ⟨[.undef, .d (.fn f [.ptr a 0, .ptr b 0]), .undef, .undef, .undef, .d (.int .i64 i), .undef, .undef, .undef, .undef, .d (.lst ms.length (msL ms)), .d (.int .i64 ms.length), .d (.int .i64 i), .undef, .undef, .undef, .undef, .undef, .d (.lst zs.length (zsA zs)), .d (.int .i64 zs.length), .d (.int .i64 s.1.1), .undef, .undef, .undef, .undef, .undef, .undef, .undef, .undef, .undef, .undef, .undef, .undef, .undef, .undef], [], s.1.2⟩)
      (fun s => zs.length - s.1.1) ⟨(0, h1), Nat.zero_le _, g1⟩ (Le.of (by simp [leT, mL]) (lkL_app [] [(6, _)]) (fun _ _ h => h)) rfl ?_
    rintro ⟨⟨j, h2⟩, ⟨hj, g2⟩⟩
    dsimp only at hj g2 ⊢
    conv => whnf
    refine GB.mk (fun hcj => ?_) (fun hcj => ?_)
    · simp only [decide_eq_true_eq] at hcj
      have hjl : j < zs.length := by omega
      obtain ⟨z, hzz⟩ : ∃ z, zs[j]? = some z := ⟨_, List.getElem?_eq_getElem hjl⟩
      conv => whnf
      refine Rq.mk (by omega) ?_
      conv => whnf
      refine SubO.mk (zaL z) (by simpa using zsA_get hzz) (by simpa using zsA_fit hjl) ?_
      conv => whnf
      refine Rq.mk (by first | exact id | exact notMem rfl) ?_
      conv => whnf
      refine CallX.mk T (fun q hq => ⟨.inl hq, id⟩) (hstep i zs j z h2 hzs hzz g2 _ (fun h3 g3 => ?_) (fun e h3 he e3 => ?_))
      · conv => whnf
        refine GB.mk (fun h => absurd h (by simp)) (fun _ => ?_)
        conv => whnf
        refine Wr.i64 (y := ((j + 1 : Nat) : Int)) (by omega) (by omega) (by omega) ?_
        conv => whnf
        refine ⟨⟨(j + 1, h3), by omega, g3⟩, by simp; omega, Le.of (by simp [leT, mL]) (lkL_app [] _) (fun _ _ h => h)⟩
      · conv => whnf
        refine GB.mk (fun _ => ?_) (fun h => absurd h (by simpa using he))
        conv => whnf
        refine ⟨_, Le.refl _, ?_⟩
        conv => whnf
        refine ⟨_, Le.refl _, ?_⟩
        conv => whnf
        exact Fin.same (hE e h3 he e3)
    · simp only [decide_eq_false_iff_not] at hcj
      have hjj : j = zs.length := by omega
      subst hjj
      conv => whnf
      refine ⟨_, Le.refl _, ?_⟩
      conv => whnf
      refine Wr.i64 (y := ((i + 1 : Nat) : Int)) (by omega) (by omega) (by omega) ?_
      conv => whnf
      refine ⟨⟨(i + 1, h2), by omega, hnext i zs h2 hzs g2⟩, by simp; omega, Le.of (by simp [leT, mL]) (lkL_app [] []) (fun _ _ h => h)⟩
  · simp only [decide_eq_false_iff_not] at hcc
    have hii : i = ms.length := by omega
    subst hii
    conv => whnf
    refine ⟨_, Le.refl _, ?_⟩
    conv => whnf
    exact Fin.same (hK h1 g1)
end Go.Proofs.Ytjnhijpophmmgaa
