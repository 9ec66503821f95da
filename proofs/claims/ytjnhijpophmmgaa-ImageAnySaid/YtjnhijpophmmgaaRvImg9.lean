/- RvImg9: what functions of the program that the law reaches compute, each stated as a contract, for the law ImageAny. -/
import Derived.Test.YtjnhijpophmmgaaRvImg8
set_option linter.unusedVariables false
set_option linter.unusedSimpArgs false
namespace Go.Proofs.Ytjnhijpophmmgaa
open Go Go.Proofs.Rv
set_option maxRecDepth 20000

theorem busH_out {L : BusL} {b : BusA} {q : Nat} (hq : q ∉ L.all) : busH L b q = none := by
  simp only [BusL.all, List.mem_cons, not_or] at hq
  obtain ⟨h1, h2, h3, h4, h5⟩ := hq
  unfold busH
  rw [if_neg h1, if_neg h2, if_neg h3, if_neg h4, devsH_none h5]

theorem over_fresh_keep {h : Heap} {L : BusL} {b : BusA} (hf : ∀ q ∈ L.all, h q = none) : ∀ q x, h q = some x → (h.over (busH L b)) q = some x := fun q x e => by
  rw [over_out (busH_out fun hm => by rw [hf q hm] at e; cases e)]; exact e

theorem new_ok {c : Cf} (hc : Good c) {ac : Nat} (ha : c.mt + c.zo + c.sp = ac) : (BusA.new c.me ac c.ca c.bl c.li).devs.length = c.me.toNat := by simp [BusA.new]

theorem iload_c (x : List UInt8) (hx : x.length ≤ 1073741824) (h : Heap) (K : AV → Heap → Prop)
    (hE : ∀ e : Int, e = 13 ∨ e = 14 → (x = [] → e = 14) → K (.tup [.d .nilp, .agg (cfL .zero), .d (.int .i64 e)]) h)
    (hO : ∀ c ms L b, Img x c ms → (∀ q ∈ L.all, h q = none) → BusAt (h.over (busH L b)) L b → Holds c ms b → K (.tup [.d (.ptr L.o 0), .agg (cfL c), .d (.int .i64 0)]) (h.over (busH L b))) :
    C Try.prog (fun _ => False) 5 [.d (BL x)] h K := by
  refine C.of_body lay layf mixed (gl := fun _ => false) (dr := fun r => match r with | 4 => some (.flo 0 (.flo 1 (.flo 2 (.flo 4 (.flo 5 (.flo 6 (.flo 7 (.flo 8 (.flo 9 (.alt 3 (.alt 10 (.flo 11 (.flo 12 (.flo 13 (.flo 14 (.flo 15 (.fin)))))) (.non)) (.non))))))))))) | 7 => some (.flo 0 (.flo 1 (.flo 2 (.alt 3 (.flo 4 (.fin)) (.non))))) | _ => none) _ _ _ Try.func5 rfl rfl rfl rfl (by kernel_rfl) rfl ?_
  conv => whnf
  refine CallX.mk _ (fun _ h => h.elim) (iparse_c x (by omega) h _ (fun c ms im => ?_) (fun e he he14 => ?_))
  · have hc := im.good
    have hxn : x ≠ [] := by
      have := im.b
      rintro rfl
      have := congrArg List.length this
      simp [wI_length] at this
      omega
    have hml := im.len
    obtain ⟨ac, hac⟩ : ∃ ac : Nat, c.mt + c.zo + c.sp = ac := ⟨(c.mt + c.zo + c.sp).toNat, by have := hc.mt; have := hc.zo; have := hc.sp; omega⟩
    have hz : ∀ zs ∈ ms, zs = [] ∨ (zs.length = ac ∧ ∀ z ∈ zs, z.good c.ca c.bl) := fun zs hzs => (im.ms zs hzs).imp id fun ⟨h1, h2⟩ => ⟨by omega, h2⟩
    have q1 := hc.me; have q2 := hc.bl; have q3 := hc.ca; have q4 := hc.all; have q5 := hc.mt; have q6 := hc.zo; have q7 := hc.sp; have q8 := hc.li; have q9 := hc.ac
    conv => whnf
    refine Rq.mk (by first | exact id | exact notMem rfl) ?_
    conv => whnf
    refine GB.mk (fun h => absurd h (by simp)) (fun _ => ?_)
    conv => whnf
    refine CallX.mk _ (fun _ h => h.elim) (all_c c _ _ (fun hh => absurd hc.sane hh) (fun _ => ?_))
    rw [hac]
    conv => whnf
    refine CallX.mk _ (fun _ h => h.elim) (bnew_c c.me ac c.ca c.bl c.li _ _ (fun hn => absurd ⟨by omega, by omega, by omega, by omega, by omega⟩ hn) (fun _ L hL hfr hb => ?_))
    conv => whnf
    refine GB.mk (fun h => absurd h (by simp)) (fun _ => ?_)
    conv => whnf
    have hf := Fill.new hc hml hac (fun zs hzs => (hz zs hzs).imp id (·.1)) hb.ok
    have hnl := hf.n
    have over2 : ∀ b' : BusA, b'.devs.length = ms.length → (h.over (busH L (.new c.me ac c.ca c.bl c.li))).over (busH L b') = h.over (busH L b') := fun b' hl => over_bus (by rw [hnl, hl])
    refine CallX.mk (fun q => q ∈ L.all) (fun q hq => ⟨.inr (hfr q hq), id⟩) (ilay_c hb hc hac hml hz hf _ (fun b' hb' hh => ?_) (fun e b' he hl => ?_))
    · rw [over2 b' hh.n] at hb' ⊢
      conv => whnf
      refine GB.mk (fun h => absurd h (by simp)) (fun _ => ?_)
      conv => whnf
      refine Rq.mk (by first | exact id | exact notMem rfl) ?_
      conv => whnf
      exact Fin.same (hO c ms L b' im hfr hb' hh)
    · rw [over2 b' hl]
      conv => whnf
      refine GB.mk (fun _ => ?_) (fun h => absurd h (by simpa using he))
      conv => whnf
      refine Rq.mk (by first | exact id | exact notMem rfl) ?_
      conv => whnf
      exact Rv.Fin.mk h (over_fresh_keep hfr) (hE 13 (.inl rfl) fun hh => absurd hh hxn)
  · have he0 : e ≠ 0 := by omega
    conv => whnf
    refine Rq.mk (by first | exact id | exact notMem rfl) ?_
    conv => whnf
    refine GB.mk (fun _ => ?_) (fun h => absurd h (by simpa using he0))
    conv => whnf
    refine Rq.mk (by first | exact id | exact notMem rfl) ?_
    conv => whnf
    exact Fin.same (hE e he he14)
end Go.Proofs.Ytjnhijpophmmgaa
