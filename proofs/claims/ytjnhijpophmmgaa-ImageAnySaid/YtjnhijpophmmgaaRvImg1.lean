/- RvImg1: what functions of the program that the law reaches compute, each stated as a contract, for the law ImageAny. -/
import Derived.Test.YtjnhijpophmmgaaRvBusN
import Derived.Test.YtjnhijpophmmgaaRvImgA
set_option linter.unusedVariables false
set_option linter.unusedSimpArgs false
namespace Go.Proofs.Ytjnhijpophmmgaa
open Go Go.Proofs.Rv
set_option maxRecDepth 20000

theorem iright_c {h : Heap} {L : BusL} {b : BusA} (hb : BusAt h L b) (c : Cf) (K : AV → Heap → Prop) (hT : Good c → b.devs.length = c.me → K (.d (.int .i64 0)) h) (hF : ¬ (Good c ∧ b.devs.length = c.me) → ∀ e : Int, e ≠ 0 → K (.d (.int .i64 e)) h) :
    C Try.prog (fun _ => False) 13 [.d (.ptr L.o 0), .agg (cfL c)] h K := by
  refine C.of_body lay layf mixed (gl := fun _ => false) (dr := fun r => match r with | 5 => some (.flo 0 (.flo 2 (.flo 3 (.alt 1 (.flo 4 (.flo 5 (.fin))) (.non))))) | _ => none) _ _ _ Try.func13 rfl rfl rfl rfl (by kernel_rfl) rfl ?_
  conv => whnf
  refine CallX.mk _ (fun _ h => h.elim) (check_c c _ _ (fun hg => ?_) (fun hg e he => ?_))
  · conv => whnf
    refine GB.mk (fun h => absurd h (by simp)) (fun _ => ?_)
    conv => whnf
    refine CallX.mk _ (fun _ h => h.elim) (bmembers_c hb _ ?_)
    conv => whnf
    refine GB.mk (fun hx => ?_) (fun hx => ?_)
    · conv => whnf
      exact Fin.same (hF (fun hh => by simp at hx; exact hx hh.2) 1 (by decide))
    · conv => whnf
      exact Fin.same (hT hg (by simpa using hx))
  · conv => whnf
    refine GB.mk (fun _ => ?_) (fun h => absurd h (by simpa using he))
    conv => whnf
    exact Fin.same (hF (fun hh => hg hh.1) 1 (by decide))

def textA (b : BusA) (m z wp : Int) : BusA × List UInt8 × Int := if wp = 0 then (b, [], 0) else b.read m z 0 wp

theorem itext_c {h : Heap} {L : BusL} {b : BusA} (hb : BusAt h L b) (m z : Int) (wp safe : Int) (done : Bool) (K : AV → Heap → Prop) (hK : K (.tup [.d (BL (textA b m z wp).2.1), .d (.int .i64 (textA b m z wp).2.2)]) (h.over (busH L (textA b m z wp).1))) :
    C Try.prog (fun q => q ∈ L.all) 19 [.d (.ptr L.o 0), .d (.int .i64 m), .d (.int .i64 z), .agg [.int .i64 wp, .int .i64 safe, .bool done]] h K := by
  unfold textA at hK
  refine C.of_body lay layf mixed (gl := fun _ => false) (dr := fun _ => none) _ _ _ Try.func19 rfl rfl rfl rfl rfl rfl ?_
  conv => whnf
  refine GB.mk (fun hx => ?_) (fun hx => ?_)
  · simp only [decide_eq_true_eq] at hx
    rw [if_pos hx] at hK
    dsimp only at hK
    rw [hb.self] at hK
    conv => whnf
    exact Fin.fz (fun _ => False) (.tup [.d (BL []), .d (.int .i64 0)]) _ (.tup2 (.d .nilL) (.refl _)) (HFz.refl fun _ e => e.elim) hK
  · simp only [decide_eq_false_iff_not] at hx
    rw [if_neg hx] at hK
    conv => whnf
    refine CallX.mk (fun q => q ∈ L.all) (fun q hq => ⟨.inl hq, id⟩) (bread_c hb m z 0 wp _ ?_)
    conv => whnf
    exact Fin.same hK

theorem zeros_len (n : Nat) : (zeros [FV.int .u8 0] n).length = n := by
  induction n with
  | zero => rfl
  | succ n ih => simp [zeros, ih]

theorem ipart_c (x : List UInt8) (hx : x.length ≤ 1099511627776) (i j k : Int) (h0 : 0 ≤ i) (h1 : i ≤ j) (h2 : 0 ≤ k) (h3 : k ≤ 4096) (hj : j ≤ 4096) (h4 : j * k ≤ x.length) (h : Heap) (K : AV → Heap → Prop)
    (hK : K (.d (BL ((x.drop (i * k).toNat).take ((j - i) * k).toNat))) h) :
    C Try.prog (fun _ => False) 38 [.d (BL x), .d (.int .i64 i), .d (.int .i64 j), .d (.int .i64 k)] h K := by
  have hik : 0 ≤ i * k := Int.mul_nonneg h0 h2
  have hij : i * k ≤ j * k := Int.mul_le_mul_of_nonneg_right h1 h2
  have hjk : (j - i) * k = j * k - i * k := Int.sub_mul ..
  have hbig : j * k ≤ 4096 * 4096 := Int.mul_le_mul hj h3 h2 (by decide)
  refine C.of_body lay layf mixed (gl := fun _ => false) (dr := fun _ => none) _ _ _ Try.func38 rfl rfl rfl rfl rfl rfl ?_
  conv => whnf
  refine Wr.i64 (y := i * k) rfl (by omega) (by omega) ?_
  conv => whnf
  refine Wr.i64 (y := j * k) rfl (by omega) (by omega) ?_
  conv => whnf
  refine Wr.i64 (y := j * k) rfl (by omega) (by omega) ?_
  conv => whnf
  refine Cut.mk (i * k).toNat (j * k).toNat (Int.toNat_of_nonneg hik).symm (Int.toNat_of_nonneg (Int.le_trans hik hij)).symm (by omega) (by omega) (fun x hx => ⟨by cases hx; omega, by cases hx; omega⟩) ?_
  conv => whnf
  have el : (j * k).toNat - (i * k).toNat = ((x.drop (i * k).toNat).take ((j - i) * k).toNat).length := by simp; omega
  refine Nm.mk (u8s ((x.drop (i * k).toNat).take ((j - i) * k).toNat)) (by rw [Nat.mul_one, Nat.mul_one, show (j * k).toNat - (i * k).toNat = ((j - i) * k).toNat by omega]; simp [u8s]) ?_
  rw [el]
  have hyl : ((x.drop (i * k).toNat).take ((j - i) * k).toNat).length ≤ 1099511627776 := by simp; omega
  generalize (x.drop (i * k).toNat).take ((j - i) * k).toNat = y at *
  conv => whnf
  refine Rq.mk (by exact ⟨by omega, rfl, by omega, by omega⟩) ?_
  conv => whnf
  refine NewK.mk fun o ho => ?_
  conv => whnf
  refine Nm.mk (zeros [FV.int .u8 0] y.length) (by simp) ?_
  conv => whnf
  have zl : (zeros [FV.int .u8 0] y.length).length = y.length := zeros_len _
  refine Rq.mk (by simp [u8s_length]) ?_
  conv => whnf
  refine ObjK.mk _ (Heap.upd_same) ?_
  conv => whnf
  refine Rq.mk (by exact ⟨⟨rfl, .inr ho, id⟩, rfl, rfl, by rw [zl]; simp⟩) ?_
  conv => whnf
  refine Nm.mk (u8s y) (by
    simp only [Rv.over, List.take_zero, List.nil_append, Nat.zero_add, Int.toNat_natCast]
    rw [List.take_of_length_le (by simp [u8s_length]), List.drop_of_length_le (by rw [zl, u8s_length]; exact Nat.le_refl _), List.append_nil]) ?_
  rw [Heap.upd_upd]
  conv => whnf
  exact Rv.Fin.lst ho hK
end Go.Proofs.Ytjnhijpophmmgaa
