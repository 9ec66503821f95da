/- The walk of the law ImageAny: for every list of bytes it returns true. No condition. -/
import Derived.Test.YtjnhijpophmmgaaRvImg9
set_option linter.unusedVariables false
set_option linter.unusedSimpArgs false
namespace Go.Proofs.Ytjnhijpophmmgaa
open Go Go.Proofs.Rv
set_option maxRecDepth 20000

theorem code_c (n : Int) (h : Heap) (K : AV → Heap → Prop) (hK : K (.d (.int .i64 n)) h) : C Try.prog (fun _ => False) 6 [.d (.int .i64 n)] h K := by
  refine C.of_body lay layf mixed (gl := fun _ => false) (dr := fun _ => none) _ _ _ Try.func6 rfl rfl rfl rfl rfl rfl ?_
  conv => whnf
  exact Fin.same hK

def liveC : Cf := ⟨1, 3, 1, 64, 16, 1, 1, 3, 1, 1, 5⟩
theorem liveC_good : Good liveC := by
  constructor <;> first | decide | (simp [liveC, roomF]; done) | (show (_ : Int) ≤ _; decide)

theorem lbus_c (c : Cf) (hc : Good c) (ac : Nat) (hac : c.mt + c.zo + c.sp = ac) (h : Heap) (K : AV → Heap → Prop)
    (hK : ∀ L : BusL, (∀ q ∈ L.all, h q = none) → BusAt (h.over (busH L (.new c.me ac c.ca c.bl c.li))) L (.new c.me ac c.ca c.bl c.li) → K (.d (.ptr L.o 0)) (h.over (busH L (.new c.me ac c.ca c.bl c.li)))) :
    C Try.prog (fun _ => False) 8 [.agg (cfL c)] h K := by
  have q1 := hc.me; have q2 := hc.bl; have q3 := hc.ca; have q4 := hc.all; have q5 := hc.mt; have q6 := hc.zo; have q7 := hc.sp; have q8 := hc.li; have q9 := hc.ac
  refine C.of_body lay layf mixed (gl := fun _ => false) (dr := fun r => match r with | 1 => some (.flo 0 (.flo 1 (.flo 2 (.flo 4 (.flo 5 (.flo 6 (.flo 7 (.flo 8 (.flo 9 (.alt 3 (.alt 10 (.flo 11 (.flo 12 (.flo 13 (.flo 14 (.flo 15 (.fin)))))) (.non)) (.non))))))))))) | _ => none) _ _ _ Try.func8 rfl rfl rfl rfl (by kernel_rfl) rfl ?_
  conv => whnf
  refine CallX.mk _ (fun _ h => h.elim) (all_c c _ _ (fun hh => absurd hc.sane hh) (fun _ => ?_))
  rw [hac]
  conv => whnf
  refine CallX.mk _ (fun _ h => h.elim) (bnew_c c.me ac c.ca c.bl c.li _ _ (fun hn => absurd ⟨by omega, by omega, by omega, by omega, by omega⟩ hn) (fun _ L hL hfr hb => ?_))
  conv => whnf
  exact Fin.same (hK L hfr hb)

def liveM : List (List ZA) := List.replicate 3 (List.replicate 5 ⟨0, 0, false, []⟩)
theorem liveI : Img (wI 88 ++ (cfB liveC ++ msB liveM)) liveC liveM :=
  ⟨liveC_good, rfl, rfl, fun zs hz => by
    obtain ⟨_, rfl⟩ := List.mem_replicate.1 hz
    refine .inr ⟨rfl, fun z hz => ?_⟩
    obtain ⟨_, rfl⟩ := List.mem_replicate.1 hz
    exact ⟨by decide, by decide, by decide, by decide, by decide, by decide⟩⟩

theorem liveH : Holds liveC liveM (.new 3 5 16 64 5) := by
  refine ⟨rfl, rfl, rfl, fun t ht => ?_, fun i d hi hd => ?_, fun i d zs hi hne hd => ?_⟩
  · simp [BusA.new] at ht; exact ht
  · have := List.mem_of_getElem? hi
    obtain ⟨_, e⟩ := List.mem_replicate.1 this
    simp at e
  · obtain ⟨_, rfl⟩ := List.mem_replicate.1 (List.mem_of_getElem? hi)
    have hm := List.mem_of_getElem? hd
    simp only [BusA.new] at hm
    obtain ⟨_, rfl⟩ := List.mem_replicate.1 hm
    refine ⟨rfl, rfl, fun j x z hx hz => ?_⟩
    have hm2 := List.mem_of_getElem? hx
    simp only [DevA.new] at hm2
    obtain ⟨_, rfl⟩ := List.mem_replicate.1 hm2
    obtain ⟨_, rfl⟩ := List.mem_replicate.1 (List.mem_of_getElem? hz)
    exact ⟨by decide, rfl, rfl, rfl, by decide⟩

theorem live_c (h : Heap) (K : AV → Heap → Prop) (hK : K (.d (.bool true)) h) : C Try.prog (fun _ => False) 4 [] h K := by
  obtain ⟨x, xI, xl⟩ : ∃ x, Img x liveC liveM ∧ x.length = 474 := ⟨_, liveI, by decide⟩
  refine C.of_body lay layf mixed (gl := fun _ => false) (dr := fun r => match r with | 3 => some (.flo 0 (.flo 2 (.alt 1 (.alt 3 (.flo 4 (.flo 5 (.flo 6 (.flo 7 (.flo 8 (.fin)))))) (.non)) (.non)))) | _ => none) _ _ _ Try.func4 rfl rfl rfl rfl (by kernel_rfl) rfl ?_
  conv => whnf
  refine CallX.mk _ (fun _ h => h.elim) (C.nils [] [] (iload_c [] (by decide) h _ (fun e _ he => ?_) (fun c ms L b im => ?_)))
  · obtain rfl := he rfl
    conv => whnf
    refine Rq.mk (by first | exact id | exact notMem rfl) ?_
    conv => whnf
    refine Rq.mk (by first | exact id | exact notMem rfl) ?_
    conv => whnf
    refine CallX.mk _ (fun _ h => h.elim) (lbus_c liveC liveC_good 5 rfl h _ (fun L hfr hb => ?_))
    conv => whnf
    refine CallX.mk (fun q => q ∈ L.all) (fun q hq => ⟨.inr (hfr q hq), notMem rfl⟩) (idump_c hb liveC liveM x xI (by omega) liveH _ (fun b' hb' => ?_))
    rw [over_bus (by have := hb'.len; have := hb.len; omega)]
    conv => whnf
    refine CallX.mk _ (fun _ h => h.elim) (code_c 14 _ _ ?_)
    conv => whnf
    refine GB.mk (fun _ => ?_) (fun h => absurd h (by decide))
    conv => whnf
    refine CallX.mk _ (fun _ h => h.elim) (code_c 0 _ _ ?_)
    conv => whnf
    refine GB.mk (fun _ => ?_) (fun h => absurd h (by decide))
    conv => whnf
    rw [xl]
    exact Rv.Fin.mk h (over_fresh_keep hfr) hK
  · have := im.b
    have := congrArg List.length this
    simp [wI_length] at this
    omega

theorem any_c (x : List UInt8) (h : Heap) (K : AV → Heap → Prop) (hK : K (.d (.bool true)) h) : C Try.prog (fun _ => False) 3 [.d (BL x)] h K := by
  refine C.of_body lay layf mixed (gl := fun _ => false) (dr := fun _ => none) _ _ _ Try.func3 rfl rfl rfl rfl rfl rfl ?_
  conv => whnf
  refine GB.mk (fun hl => ?_) (fun hl => ?_)
  · conv => whnf
    refine CallX.mk _ (fun _ h => h.elim) (live_c h _ ?_)
    conv => whnf
    exact Fin.same hK
  simp only [decide_eq_false_iff_not] at hl
  conv => whnf
  refine CallX.mk _ (fun _ h => h.elim) (iload_c x (by omega) h _ (fun e he _ => ?_) (fun c ms L b im hfr hb hh => ?_))
  · conv => whnf
    refine Rq.mk (by first | exact id | exact notMem rfl) ?_
    conv => whnf
    refine CallX.mk _ (fun _ h => h.elim) (code_c e _ _ ?_)
    have he0 : e ≠ 0 := by omega
    conv => whnf
    refine GB.mk (fun _ => ?_) (fun h => absurd h (by simpa using he0))
    conv => whnf
    refine GB.mk (fun _ => ?_) (fun h => absurd h (by decide))
    conv => whnf
    rcases he with rfl | rfl
    · refine CallX.mk _ (fun _ h => h.elim) (code_c 13 _ _ ?_)
      conv => whnf
      refine GB.mk (fun _ => ?_) (fun h => absurd h (by decide))
      conv => whnf
      refine CallX.mk _ (fun _ h => h.elim) (live_c h _ ?_)
      conv => whnf
      exact Fin.same hK
    · refine CallX.mk _ (fun _ h => h.elim) (code_c 14 _ _ ?_)
      conv => whnf
      refine GB.mk (fun h => absurd h (by decide)) (fun _ => ?_)
      conv => whnf
      refine CallX.mk _ (fun _ h => h.elim) (code_c 14 _ _ ?_)
      conv => whnf
      refine GB.mk (fun _ => ?_) (fun h => absurd h (by decide))
      conv => whnf
      refine CallX.mk _ (fun _ h => h.elim) (live_c h _ ?_)
      conv => whnf
      exact Fin.same hK
  · conv => whnf
    refine Rq.mk (by first | exact id | exact notMem rfl) ?_
    conv => whnf
    refine CallX.mk _ (fun _ h => h.elim) (code_c 0 _ _ ?_)
    conv => whnf
    refine GB.mk (fun h => absurd h (by decide)) (fun _ => ?_)
    conv => whnf
    refine CallX.mk (fun q => q ∈ L.all) (fun q hq => ⟨.inr (hfr q hq), id⟩) (idump_c hb c ms x im (by omega) hh _ (fun b' hb' => ?_))
    rw [over_bus (by have := hb'.len; have := hb.len; omega)]
    conv => whnf
    refine CallX.mk _ (fun _ h => h.elim) (code_c 0 _ _ ?_)
    conv => whnf
    refine GB.mk (fun _ => ?_) (fun h => absurd h (by decide))
    conv => whnf
    refine Rq.mk (by simp [u8s_length]) ?_
    conv => whnf
    refine StrO.mk x rfl ?_
    conv => whnf
    refine Rq.mk (by simp [u8s_length]) ?_
    conv => whnf
    refine StrO.mk x rfl ?_
    conv => whnf
    refine GB.mk (fun _ => ?_) (fun h => absurd h (by simp))
    conv => whnf
    refine CallX.mk _ (fun _ h => h.elim) (live_c _ _ ?_)
    conv => whnf
    exact Rv.Fin.mk h (over_fresh_keep hfr) hK
end Go.Proofs.Ytjnhijpophmmgaa
