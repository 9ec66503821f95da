/- RvZone: what functions of the program that the law reaches compute, each stated as a contract, for the law ImageAny. -/
import Derived.Test.YtjnhijpophmmgaaRvConf
import Derived.Test.YtjnhijpophmmgaaRvZn
set_option linter.unusedVariables false
set_option linter.unusedSimpArgs false
namespace Go.Proofs.Ytjnhijpophmmgaa
open Go Go.Proofs.Rv
set_option maxRecDepth 20000
def zL (z : Zn) : List FV := [.int .i64 z.cap, .int .i64 z.block, BL z.data, .int .i64 z.safe, .bool z.done]

theorem zwp_c (z : Zn) (hd : z.data.length ≤ 1099511627776) (h : Heap) (K : AV → Heap → Prop) (hK : K (.d (.int .i64 z.wp)) h) : C Try.prog (fun _ => False) 75 [.agg (zL z)] h K := by
  have h1 := z.wp0
  have h2 := z.wp_le
  refine C.of_body lay layf mixed (gl := fun _ => false) (dr := fun _ => none) _ _ _ Try.func75 rfl rfl rfl rfl rfl rfl ?_
  conv => whnf
  refine Rq.mk (by omega) ?_
  conv => whnf
  refine Wr.i64 (y := z.wp) (Int.tdiv_eq_ediv_of_nonneg (by omega)) (by omega) (by omega) ?_
  conv => whnf
  exact Fin.same hK

theorem znew_c (cap block : Int) (h : Heap) (K : AV → Heap → Prop) (hK : K (.agg (zL (.new cap block))) h) : C Try.prog (fun _ => False) 54 [.d (.int .i64 cap), .d (.int .i64 block)] h K := by
  refine C.of_body lay layf mixed (gl := fun _ => false) (dr := fun _ => none) _ _ _ Try.func54 rfl rfl rfl rfl rfl rfl ?_
  conv => whnf
  refine Rq.mk (by exact id) ?_
  conv => whnf
  exact Fin.fz (fun _ => False) (.agg (zL (.new cap block))) h (.agg _ _ rfl (.cons (.refl _) (.cons (.refl _) (.cons .nilL (.refl _ _ _))))) (HFz.refl fun _ e => e.elim) hK

theorem zlook_c (z : Zn) (hd : z.data.length ≤ 1099511627776) (h : Heap) (K : AV → Heap → Prop) (hK : K (.agg [.int .i64 z.wp, .int .i64 z.safe, .bool z.done]) h) : C Try.prog (fun _ => False) 64 [.agg (zL z)] h K := by
  refine C.of_body lay layf mixed (gl := fun _ => false) (dr := fun r => match r with | 1 => some (.flo 0 (.flo 2 (.flo 3 (.flo 4 (.flo 5 (.alt 1 (.flo 6 (.alt 7 (.fin) (.non))) (.non))))))) | _ => none) _ _ _ Try.func64 rfl rfl rfl rfl (by kernel_rfl) rfl ?_
  conv => whnf
  refine CallX.mk _ (fun _ h => h.elim) (zwp_c z hd _ _ ?_)
  conv => whnf
  refine Rq.mk (by first | exact id | exact notMem rfl) ?_
  conv => whnf
  exact Fin.same hK

theorem zactive_c (z : Zn) (hd : z.data.length ≤ 1099511627776) (h : Heap) (K : AV → Heap → Prop) (hK : K (.d (.bool z.active)) h) : C Try.prog (fun _ => False) 70 [.agg (zL z)] h K := by
  unfold Zn.active at hK
  refine C.of_body lay layf mixed (gl := fun _ => false) (dr := fun r => match r with | 1 => some (.flo 0 (.flo 1 (.flo 2 (.flo 3 (.flo 4 (.alt 5 (.flo 6 (.flo 7 (.flo 8 (.flo 9 (.flo 11 (.flo 12 (.alt 10 (.flo 13 (.flo 14 (.flo 15 (.fin)))) (.non)))))))) (.non))))))) | _ => none) _ _ _ Try.func70 rfl rfl rfl rfl (by kernel_rfl) rfl ?_
  conv => whnf
  refine GB.mk (fun hb => ?_) (fun hb => ?_)
  · rw [hb, Bool.true_and] at hK
    conv => whnf
    refine CallX.mk _ (fun _ h => h.elim) (zwp_c z hd _ _ ?_)
    conv => whnf
    refine GB.mk (fun hc => ?_) (fun hc => ?_)
    · rw [hc, Bool.true_and] at hK
      conv => whnf
      refine CallX.mk _ (fun _ h => h.elim) (zwp_c z hd _ _ ?_)
      conv => whnf
      exact Fin.same hK
    · rw [hc, Bool.false_and] at hK
      conv => whnf
      exact Fin.ff hK
  · rw [hb, Bool.false_and] at hK
    conv => whnf
    exact Fin.ff hK

theorem zflush_c (z : Zn) (hd : z.data.length ≤ 1099511627776) (h : Heap) (K : AV → Heap → Prop) (hK : K (.agg (zL z.flush)) h) : C Try.prog (fun _ => False) 74 [.agg (zL z)] h K := by
  refine C.of_body lay layf mixed (gl := fun _ => false) (dr := fun _ => none) _ _ _ Try.func74 rfl rfl rfl rfl rfl rfl ?_
  conv => whnf
  refine CallX.mk _ (fun _ h => h.elim) (zwp_c z hd _ _ ?_)
  conv => whnf
  refine Rq.mk (by first | exact id | exact notMem rfl) ?_
  conv => whnf
  refine Rq.mk (by first | exact id | exact notMem rfl) ?_
  conv => whnf
  exact Fin.same hK

theorem zfinish_c (z : Zn) (hd : z.data.length ≤ 1099511627776) (h : Heap) (K : AV → Heap → Prop) (hK : K (.agg (zL z.finish)) h) : C Try.prog (fun _ => False) 73 [.agg (zL z)] h K := by
  refine C.of_body lay layf mixed (gl := fun _ => false) (dr := fun _ => none) _ _ _ Try.func73 rfl rfl rfl rfl rfl rfl ?_
  conv => whnf
  refine CallX.mk _ (fun _ h => h.elim) (zflush_c z hd _ _ ?_)
  conv => whnf
  refine Rq.mk (by first | exact id | exact notMem rfl) ?_
  conv => whnf
  refine Rq.mk (by first | exact id | exact notMem rfl) ?_
  conv => whnf
  refine Rq.mk (by first | exact id | exact notMem rfl) ?_
  conv => whnf
  exact Fin.same hK

theorem grow_c (n : Nat) (hn : n ≤ 1099511627776) (h : Heap) : C Try.prog (fun _ => False) 79 [.d .nils, .d (.int .i64 n)] h (AB h [] 0) := by
  refine C.of_body lay layf mixed (gl := fun _ => false) (dr := fun _ => none) _ _ _ Try.func79 rfl rfl rfl rfl rfl rfl ?_
  conv => whnf
  refine GB.mk (fun h => absurd h (by simp)) (fun _ => ?_)
  conv => whnf
  refine Wr.i64 (y := 0) (by decide) (by decide) (by decide) ?_
  conv => whnf
  refine Wr.i64 (y := n) (by omega) (by omega) (by omega) ?_
  conv => whnf
  refine GB.mk (fun hb => ?_) (fun hb => ?_)
  · simp only [decide_eq_true_eq] at hb
    conv => whnf
    refine Cut.mk 0 0 rfl rfl (by omega) (by omega) (fun x hx => by cases hx) ?_
    conv => whnf
    refine Rq.mk (by exact ⟨hb, by omega, by omega⟩) ?_
    conv => whnf
    refine NewK.mk fun p hp => ?_
    conv => whnf
    refine ObjK.mk _ (Heap.upd_same) ?_
    conv => whnf
    refine Rq.mk (by rfl) ?_
    conv => whnf
    refine Cut.mk 0 0 rfl rfl (by omega) (by omega) (fun x hx => by cases hx) ?_
    conv => whnf
    exact Fin.refA ⟨some p, .some_ hp, rfl, rfl⟩
  · conv => whnf
    exact Fin.nilA ⟨none, .none_, rfl, rfl⟩

theorem concat_c (a b : List UInt8) (ha : a.length ≤ 274877906944) (hb : b.length ≤ 274877906944) (h : Heap) (K : AV → Heap → Prop) (hK : K (.d (BL (a ++ b))) h) :
    C Try.prog (fun _ => False) 78 [.d (.lst 2 [BL a, BL b])] h K := by
  refine C.acc (n := a.length + b.length) (cs := u8s a ++ u8s b) (ty := 5) (es := 1) ?_ (by rw [← u8s_append, ← List.length_append]; exact hK)
  refine C.of_body lay layf mixed (gl := fun _ => false) (dr := fun _ => none) _ _ _ Try.func78 rfl rfl rfl rfl rfl rfl ?_
  conv => whnf
  refine LoopX.unroll lay layf mixed (gl := fun _ => false) (dr := fun _ => none) 3 rfl ?_
  conv => whnf
  refine GB.mk (fun _ => ?_) (fun h => absurd h (by decide))
  conv => whnf
  refine Rq.mk (by decide) ?_
  conv => whnf
  refine SubO.mk [BL a] rfl (by simp) ?_
  conv => whnf
  refine Wr.i64 (y := a.length) (by omega) (by omega) (by omega) ?_
  conv => whnf
  refine GB.mk (fun h => absurd h (by simp)) (fun _ => ?_)
  conv => whnf
  refine Wr.i64 (y := 1) (by decide) (by decide) (by decide) ?_
  conv => whnf
  refine GB.mk (fun _ => ?_) (fun h => absurd h (by decide))
  conv => whnf
  refine Rq.mk (by decide) ?_
  conv => whnf
  refine SubO.mk [BL b] rfl (by simp) ?_
  conv => whnf
  refine Wr.i64 (y := ((a.length + b.length : Nat) : Int)) (by omega) (by omega) (by omega) ?_
  conv => whnf
  refine GB.mk (fun h => absurd h (by (simp; omega))) (fun _ => ?_)
  conv => whnf
  refine Wr.i64 (y := 2) (by decide) (by decide) (by decide) ?_
  conv => whnf
  refine GB.mk (fun h => absurd h (by decide)) (fun _ => ?_)
  conv => whnf
  refine CallX.mk _ (fun _ h => h.elim) ((grow_c (a.length + b.length) (by omega) h).mono (fun _ h => h) ?_)
  rintro _ _ ⟨c, ok, rfl, rfl⟩
  conv => whnf
  refine LoopX.unroll lay layf mixed (gl := fun _ => false) (dr := fun _ => none) 3 rfl ?_
  conv => whnf
  refine GB.mk (fun _ => ?_) (fun h => absurd h (by decide))
  conv => whnf
  refine Rq.mk (by decide) ?_
  conv => whnf
  refine SubO.mk [BL a] rfl (by simp) ?_
  conv => whnf
  refine Rq.mk (by simp [u8s_length]) ?_
  conv => whnf
  refine AccX.mk h _ rfl ok (fun o ho => .inr (ok.fresh o ho)) (fun _ _ => id) (by simp) (by omega) fun c' ok' => ?_
  refine Nm.mk (u8s a) (by simp) ?_
  conv => whnf
  refine Wr.i64 (y := 1) (by decide) (by decide) (by decide) ?_
  conv => whnf
  refine GB.mk (fun _ => ?_) (fun h => absurd h (by decide))
  conv => whnf
  refine Rq.mk (by decide) ?_
  conv => whnf
  refine SubO.mk [BL b] rfl (by simp) ?_
  conv => whnf
  refine Rq.mk (by simp [u8s_length]) ?_
  conv => whnf
  rw [Nat.zero_add, List.nil_append] at ok'
  rw [Nat.zero_add]
  refine AccX.mk h _ rfl ok' (fun o ho => .inr (ok'.fresh o ho)) (fun _ _ => id) (by simp [u8s_length]) (by omega) fun c2 ok2 => ?_
  refine Nm.mk _ rfl ?_
  conv => whnf
  refine Wr.i64 (y := 2) (by decide) (by decide) (by decide) ?_
  conv => whnf
  refine GB.mk (fun h => absurd h (by decide)) (fun _ => ?_)
  conv => whnf
  exact Fin.same ⟨c2, ok2, rfl, rfl⟩
theorem zappend_c (z : Zn) (hf : z.fit) (b : List UInt8) (hb : b.length ≤ 274877906944) (h : Heap) (K : AV → Heap → Prop) (hK : K (.tup [.agg (zL (z.app b).1), .d (.int .i64 (z.app b).2)]) h) :
    C Try.prog (fun _ => False) 69 [.agg (zL z), .d (BL b)] h K := by
  have h1 := z.wp0
  have h2 := z.wp_le
  have h3 := hf.c0
  have h4 := hf.c1
  have hd := hf.d
  have hm : 0 < max z.block 1 := by omega
  have q0 : 0 ≤ (b.length : Int) / max z.block 1 := Int.ediv_nonneg (by omega) (by omega)
  have q1 : (b.length : Int) / max z.block 1 ≤ b.length := Int.ediv_le_self _ (by omega)
  have e1 : (b.length : Int).tmod (max z.block 1) = (b.length : Int) % max z.block 1 := Int.tmod_eq_emod_of_nonneg (by omega)
  have e2 : (b.length : Int).tdiv (max z.block 1) = (b.length : Int) / max z.block 1 := Int.tdiv_eq_ediv_of_nonneg (by omega)
  unfold Zn.app at hK
  refine C.of_body lay layf mixed (gl := fun _ => false) (dr := fun r => match r with | 6 => some (.flo 0 (.flo 1 (.flo 2 (.flo 3 (.flo 4 (.flo 5 (.flo 6 (.alt 7 (.flo 8 (.flo 9 (.flo 10 (.fin)))) (.non))))))))) | _ => none) _ _ _ Try.func69 rfl rfl rfl rfl (by kernel_rfl) rfl ?_
  conv => whnf
  refine GB.mk (fun hb => ?_) (fun hb => ?_)
  · simp only [decide_eq_true_eq] at hb
    rw [if_pos (.inl (by omega))] at hK
    conv => whnf
    refine GB.mk (fun _ => ?_) (fun h => absurd h (by simp))
    conv => whnf
    refine Rq.mk (by first | exact id | exact notMem rfl) ?_
    conv => whnf
    exact Fin.fz (fun _ => False) (.tup [.agg (zL .zero), .d (.int .i64 3)]) h (.tup2 (.agg _ _ rfl (.cons (.refl _) (.cons (.refl _) (.cons .nilL (.refl _ _ _))))) (.refl _)) (HFz.refl fun _ e => e.elim) hK
  simp only [decide_eq_false_iff_not] at hb
  conv => whnf
  refine Rq.mk (by omega) ?_
  conv => whnf
  rw [e1]
  refine GB.mk (fun hc => ?_) (fun hc => ?_)
  · simp only [decide_eq_true_eq] at hc
    rw [if_pos (.inr hc)] at hK
    conv => whnf
    refine GB.mk (fun _ => ?_) (fun h => absurd h (by simp))
    conv => whnf
    refine Rq.mk (by first | exact id | exact notMem rfl) ?_
    conv => whnf
    exact Fin.fz (fun _ => False) (.tup [.agg (zL .zero), .d (.int .i64 3)]) h (.tup2 (.agg _ _ rfl (.cons (.refl _) (.cons (.refl _) (.cons .nilL (.refl _ _ _))))) (.refl _)) (HFz.refl fun _ e => e.elim) hK
  simp only [decide_eq_false_iff_not, Classical.not_not] at hc
  rw [if_neg (by omega)] at hK
  conv => whnf
  refine GB.mk (fun hdn => ?_) (fun hdn => ?_)
  · rw [if_pos (.inl hdn)] at hK
    conv => whnf
    refine GB.mk (fun _ => ?_) (fun h => absurd h (by simp))
    conv => whnf
    refine Rq.mk (by first | exact id | exact notMem rfl) ?_
    conv => whnf
    exact Fin.fz (fun _ => False) (.tup [.agg (zL .zero), .d (.int .i64 6)]) h (.tup2 (.agg _ _ rfl (.cons (.refl _) (.cons (.refl _) (.cons .nilL (.refl _ _ _))))) (.refl _)) (HFz.refl fun _ e => e.elim) hK
  conv => whnf
  refine Rq.mk (by omega) ?_
  conv => whnf
  refine Wr.i64 (y := (b.length : Int) / max z.block 1) e2 (by omega) (by omega) ?_
  conv => whnf
  refine CallX.mk _ (fun _ h => h.elim) (zwp_c z (by have := hf.d; omega) _ _ ?_)
  conv => whnf
  refine Wr.i64 (y := z.cap - z.wp) rfl (by omega) (by omega) ?_
  conv => whnf
  refine GB.mk (fun hg => ?_) (fun hg => ?_)
  · simp only [decide_eq_true_eq] at hg
    rw [if_pos (.inr hg)] at hK
    conv => whnf
    refine GB.mk (fun _ => ?_) (fun h => absurd h (by simp))
    conv => whnf
    refine Rq.mk (by first | exact id | exact notMem rfl) ?_
    conv => whnf
    exact Fin.fz (fun _ => False) (.tup [.agg (zL .zero), .d (.int .i64 6)]) h (.tup2 (.agg _ _ rfl (.cons (.refl _) (.cons (.refl _) (.cons .nilL (.refl _ _ _))))) (.refl _)) (HFz.refl fun _ e => e.elim) hK
  simp only [decide_eq_false_iff_not] at hg
  rw [if_neg (by rw [hdn]; simp; omega)] at hK
  conv => whnf
  refine GB.mk (fun h => absurd h (by simp)) (fun _ => ?_)
  conv => whnf
  refine CallX.mk _ (fun _ h => h.elim) (concat_c z.data b (by omega) (by omega) _ _ ?_)
  conv => whnf
  refine Rq.mk (by first | exact id | exact notMem rfl) ?_
  conv => whnf
  refine Rq.mk (by first | exact id | exact notMem rfl) ?_
  conv => whnf
  exact Fin.same hK

theorem zread_c (z : Zn) (hf : z.fit) (at_ n : Int) (h : Heap) (K : AV → Heap → Prop) (hK : K (.tup [.d (BL (z.read at_ n).1), .d (.int .i64 (z.read at_ n).2)]) h) :
    C Try.prog (fun _ => False) 77 [.agg (zL z), .d (.int .i64 at_), .d (.int .i64 n)] h K := by
  have h1 := z.wp0
  have h2 := z.wp_le
  have h5 := hf.d
  have h6 := hf.b0
  have h7 := hf.b1
  have hw := z.wp_mul
  unfold Zn.read at hK
  have nilCase : ∀ {K : AV → Heap → Prop}, K (.tup [.d (BL []), .d (.int .i64 4)]) h → Rv.Fin h K (.tup [.d .nils, .d (.int .i64 4)]) := fun hK =>
    Fin.fz (fun _ => False) (.tup [.d (BL []), .d (.int .i64 4)]) h (.tup2 (.d .nilL) (.refl _)) (HFz.refl fun _ e => e.elim) hK
  refine C.of_body lay layf mixed (gl := fun _ => false) (dr := fun _ => none) _ _ _ Try.func77 rfl rfl rfl rfl rfl rfl ?_
  conv => whnf
  refine GB.mk (fun ha => ?_) (fun ha => ?_)
  · simp only [decide_eq_true_eq] at ha
    rw [if_pos (.inl ha)] at hK
    conv => whnf
    exact nilCase hK
  simp only [decide_eq_false_iff_not] at ha
  conv => whnf
  refine GB.mk (fun hb => ?_) (fun hb => ?_)
  · simp only [decide_eq_true_eq] at hb
    rw [if_pos (.inr (.inl hb))] at hK
    conv => whnf
    exact nilCase hK
  simp only [decide_eq_false_iff_not] at hb
  conv => whnf
  refine CallX.mk _ (fun _ h => h.elim) (zwp_c z (by have := hf.d; omega) _ _ ?_)
  conv => whnf
  refine GB.mk (fun hc => ?_) (fun hc => ?_)
  · simp only [decide_eq_true_eq] at hc
    rw [if_pos (.inr (.inr (.inl hc)))] at hK
    conv => whnf
    exact nilCase hK
  simp only [decide_eq_false_iff_not] at hc
  conv => whnf
  refine CallX.mk _ (fun _ h => h.elim) (zwp_c z (by have := hf.d; omega) _ _ ?_)
  conv => whnf
  refine Wr.i64 (y := z.wp - at_) rfl (by omega) (by omega) ?_
  conv => whnf
  refine GB.mk (fun hg => ?_) (fun hg => ?_)
  · simp only [decide_eq_true_eq] at hg
    rw [if_pos (.inr (.inr (.inr hg)))] at hK
    conv => whnf
    exact nilCase hK
  simp only [decide_eq_false_iff_not] at hg
  rw [if_neg (by omega)] at hK
  have m0 : 0 ≤ at_ * max z.block 1 := Int.mul_nonneg (by omega) (by omega)
  have m1 : (at_ + n) * max z.block 1 ≤ z.wp * max z.block 1 := Int.mul_le_mul_of_nonneg_right (by omega) (by omega)
  have m2 : 0 ≤ n * max z.block 1 := Int.mul_nonneg (by omega) (by omega)
  have m3 : (at_ + n) * max z.block 1 = at_ * max z.block 1 + n * max z.block 1 := Int.add_mul ..
  conv => whnf
  refine Wr.i64 (y := at_ * max z.block 1) rfl (by omega) (by omega) ?_
  conv => whnf
  refine Wr.i64 (y := at_ + n) rfl (by omega) (by omega) ?_
  conv => whnf
  refine Wr.i64 (y := (at_ + n) * max z.block 1) rfl (by omega) (by omega) ?_
  conv => whnf
  refine Cut.mk (at_ * max z.block 1).toNat ((at_ + n) * max z.block 1).toNat (by simp; omega) (by simp; omega) (by omega) (by omega) (fun x hx => by cases hx) ?_
  conv => whnf
  have el : ((at_ + n) * max z.block 1).toNat - (at_ * max z.block 1).toNat = (n * max z.block 1).toNat := by omega
  have ew : ((z.data.drop (at_ * max z.block 1).toNat).take (n * max z.block 1).toNat).length = (n * max z.block 1).toNat := by simp; omega
  refine Nm.mk (u8s ((z.data.drop (at_ * max z.block 1).toNat).take (n * max z.block 1).toNat)) (by rw [el]; simp [u8s]) ?_
  conv => whnf
  rw [el]
  refine CallX.mk _ (fun _ h => h.elim) (clone_l _ _ (by omega) (by rw [u8s_length]; exact ew) h _ ?_)
  conv => whnf
  simp only [BL, ew] at hK
  exact Fin.same hK
end Go.Proofs.Ytjnhijpophmmgaa
