/- RvRead: what functions of the program that the law reaches compute, each stated as a contract, for the law ImageAny. -/
import Derived.Test.YtjnhijpophmmgaaRvPack
set_option linter.unusedVariables false
set_option linter.unusedSimpArgs false
namespace Go.Proofs.Ytjnhijpophmmgaa
open Go Go.Proofs.Rv
set_option maxRecDepth 20000
/-- A reader, as an object. -/
def RO (r : Rd) : Rv.Obj := ⟨[BL r.b, .int .i64 r.at_, .int .i64 r.e], 91, 3, false, false⟩

theorem rnew_c (b : List UInt8) (hb : b.length ≤ 1099511627776) (h : Heap) (K : AV → Heap → Prop) (hk : ∀ o, h o = none → K (.d (.ptr o 0)) (h.upd o (RO ⟨b, 0, 0⟩))) :
    C Try.prog (fun _ => False) 21 [.d (BL b)] h K := by
  refine C.of_body lay layf mixed (gl := fun t => Nat.beq t 6) (dr := fun _ => none) _ _ _ Try.func21 rfl rfl rfl rfl rfl rfl ?_
  conv => whnf
  refine CallX.mk _ (fun _ h => h.elim) (clone_l _ _ hb (u8s_length b) h _ ?_)
  conv => whnf
  refine NewK.mk fun o ho => ?_
  conv => whnf
  exact Fin.same (hk o ho)

theorem rtake_c (o : Nat) (r : Rd) (k : Nat) (hb : r.b.length ≤ 1099511627776) (hk : k ≤ 1099511627776) (ok : r.ok) (h : Heap) (ho : h o = some (RO r)) (K : AV → Heap → Prop)
    (hK : K (.d (BL (r.take k).1)) (h.upd o (RO (r.take k).2))) :
    C Try.prog (fun q => q = o) 50 [.d (.ptr o 0), .d (.int .i64 k)] h K := by
  have ha := ok.1
  refine C.of_body lay layf mixed (gl := fun _ => false) (dr := fun r => match r with | 1 => some (.flo 0 (.flo 1 (.flo 2 (.flo 3 (.flo 4 (.flo 5 (.flo 6 (.flo 7 (.flo 8 (.flo 9 (.flo 10 (.flo 11 (.flo 12 (.flo 13 (.flo 14 (.flo 15 (.flo 16 (.flo 17 (.flo 18 (.fin)))))))))))))))))))) | 6 => some (.flo 0 (.flo 1 (.flo 2 (.flo 3 (.flo 4 (.flo 5 (.flo 6 (.flo 7 (.flo 8 (.flo 9 (.flo 10 (.flo 11 (.flo 12 (.flo 13 (.flo 14 (.flo 15 (.fin))))))))))))))))) | _ => none) _ _ _ Try.func50 rfl rfl rfl rfl (by kernel_rfl) rfl ?_
  conv => whnf
  refine ObjK.mk _ (ho) ?_
  conv => whnf
  refine GB.mk (fun he => ?_) (fun he => ?_)
  · conv => whnf
    refine ObjK.mk _ (ho) ?_
    conv => whnf
    simp only [decide_eq_true_eq] at he
    refine ObjK.mk _ (ho) ?_
    conv => whnf
    refine Wr.i64 (y := (r.b.length : Int) - r.at_) rfl (by omega) (by omega) ?_
    conv => whnf
    refine GB.mk (fun hb => ?_) (fun hb => ?_)
    · simp only [decide_eq_true_eq] at hb
      conv => whnf
      refine ObjK.mk _ (ho) ?_
      conv => whnf
      refine Rq.mk (by exact ⟨rfl, .inl rfl, id⟩) ?_
      conv => whnf
      refine ObjK.mk _ (Heap.upd_same) ?_
      conv => whnf
      refine GB.mk (fun _ => ?_) (fun h => absurd h (by decide))
      conv => whnf
      rw [show r.take k = ([], { r with e := 14 }) by unfold Rd.take; rw [if_pos he, if_pos (by omega)]] at hK
      exact Fin.nil hK
    · simp only [decide_eq_false_iff_not] at hb
      conv => whnf
      refine ObjK.mk _ (ho) ?_
      conv => whnf
      refine GB.mk (fun hc => absurd he (by simpa using hc)) (fun _ => ?_)
      conv => whnf
      refine ObjK.mk _ (ho) ?_
      conv => whnf
      refine Wr.i64 (y := ((r.at_ + k : Nat) : Int)) (by omega) (by omega) (by omega) ?_
      conv => whnf
      refine ObjK.mk _ (ho) ?_
      conv => whnf
      refine Rq.mk (by exact ⟨rfl, .inl rfl, id⟩) ?_
      conv => whnf
      refine ObjK.mk _ (Heap.upd_same) ?_
      conv => whnf
      refine ObjK.mk _ (Heap.upd_same) ?_
      conv => whnf
      refine Wr.i64 (y := (r.at_ : Int)) (by omega) (by omega) (by omega) ?_
      conv => whnf
      refine ObjK.mk _ (Heap.upd_same) ?_
      conv => whnf
      refine Cut.mk r.at_ (r.at_ + k) rfl rfl (by omega) (by omega) (fun x hx => by cases hx) ?_
      conv => whnf
      refine Nm.mk (u8s ((r.b.drop r.at_).take k)) (by simp [u8s]) ?_
      conv => whnf
      rw [show r.take k = ((r.b.drop r.at_).take k, { r with at_ := r.at_ + k }) by unfold Rd.take; rw [if_pos he, if_neg (by omega)]] at hK
      have e : r.at_ + k - r.at_ = ((r.b.drop r.at_).take k).length := by simp; omega
      rw [e]
      exact Fin.same hK
  · simp only [decide_eq_false_iff_not] at he
    conv => whnf
    refine ObjK.mk _ (ho) ?_
    conv => whnf
    refine GB.mk (fun _ => ?_) (fun hc => absurd (by simpa using hc) he)
    conv => whnf
    rw [show r.take k = ([], r) by unfold Rd.take; rw [if_neg he]] at hK
    rw [Heap.upd_self ho] at hK
    exact Fin.nil hK

theorem rdI_rng (bs : List UInt8) : -9223372036854775808 ≤ rdI bs ∧ rdI bs ≤ 9223372036854775807 := by
  rw [show rdI bs = IntKind.i64.wrap (leS bs 8) from (rdA_bv bs 8 (Nat.le_refl _)).2]
  simp only [IntKind.wrap, IntKind.bits, IntKind.signed]
  simp
  omega

theorem rint_c (o : Nat) (r : Rd) (low high : Int) (hb : r.b.length ≤ 1099511627776) (ok : r.ok) (h : Heap) (ho : h o = some (RO r)) (K : AV → Heap → Prop)
    (hK : K (.d (.int .i64 (r.int low high).1)) (h.upd o (RO (r.int low high).2))) :
    C Try.prog (fun q => q = o) 27 [.d (.ptr o 0), .d (.int .i64 low), .d (.int .i64 high)] h K := by
  have hl := (r.take_eats 8).2.1
  unfold Rd.int at hK
  refine C.of_body lay layf mixed (gl := fun _ => false) (dr := fun _ => none) _ _ _ Try.func27 rfl rfl rfl rfl rfl rfl ?_
  conv => whnf
  refine CallX.mk (fun q => q = o) (fun q hq => ⟨.inl hq, id⟩) (rtake_c o r 8 hb (by omega) ok h ho _ ?_)
  generalize (r.take 8) = p at *
  obtain ⟨x8, r1⟩ := p
  dsimp only at hl hK ⊢
  conv => whnf
  refine ObjK.mk _ (Heap.upd_same) ?_
  conv => whnf
  refine GB.mk (fun he => ?_) (fun he => ?_)
  · simp only [decide_eq_true_eq] at he
    rw [if_neg he] at hK
    conv => whnf
    exact Fin.same hK
  simp only [decide_eq_false_iff_not, Classical.not_not] at he
  rw [if_pos he] at hK
  have h8 := hl he
  conv => whnf
  refine LoopX.mk lay layf mixed (gl := fun _ => false) (dr := fun _ => none) (α := {i : Nat // i ≤ 8})
    (fun i => ⟨[.d (.ptr o 0), .d (.int .i64 low), .d (.int .i64 high), .undef, .undef, .undef, .d (.int .i64 0), .d (BL x8), .d (.int .i64 (rdA x8 i.1)), .undef, .undef, .undef, .undef, .undef, .undef, .undef, .undef, .undef, .undef, .d (.int .i64 i.1), .undef, .undef, .undef, .undef, .undef, .undef, .undef, .undef, .undef, .undef, .undef, .undef, .undef, .undef, .undef, .undef, .undef, .undef, .undef, .undef, .undef, .undef, .undef, .undef, .undef], [], h.upd o (RO r1)⟩)
    (fun i => 8 - i.1) ⟨0, by omega⟩ (Le.of (by simp [leT, rdA, BL]) (fun _ _ h => h) (fun _ _ h => h)) rfl ?_
  rintro ⟨i, hi⟩
  dsimp only at hi ⊢
  conv => whnf
  refine GB.mk (fun hb => ?_) (fun hb => ?_)
  · simp only [decide_eq_true_eq] at hb
    have hb8 := UInt8.toNat_lt ((x8[i]?).getD 0)
    conv => whnf
    refine Rq.mk (by exact ⟨by omega, by omega⟩) ?_
    conv => whnf
    refine SubO.mk [.int .u8 (((x8[i]?).getD 0).toNat : Int)] (by simpa using u8s_get x8 i (by omega)) (by simp [u8s_length]; omega) ?_
    conv => whnf
    refine Wr.i64 (y := (((x8[i]?).getD 0).toNat : Int)) rfl (by omega) (by omega) ?_
    conv => whnf
    refine Wr.i64 (y := 8 * i) rfl (by omega) (by omega) ?_
    conv => whnf
    refine Rq.mk (by omega) ?_
    conv => whnf
    refine Wr.eq (y := IntKind.i64.wrap (((x8[i]?).getD 0).toNat * 2 ^ (8 * i))) (by rw [min_bits (by omega)]) ?_
    conv => whnf
    refine Wr.i64 (y := ((i + 1 : Nat) : Int)) (by omega) (by omega) (by omega) ?_
    conv => whnf
    exact ⟨⟨i + 1, by omega⟩, by dsimp only; omega, Le.of (by simp [leT, rdA]) (fun _ _ h => h) (fun _ _ h => h)⟩
  · have hi8 : i = 8 := by simp at hb; omega
    subst hi8
    conv => whnf
    refine ⟨_, Le.refl _, ?_⟩
    conv => whnf
    refine GB.mk (fun hb => ?_) (fun hb => ?_)
    · simp only [decide_eq_true_eq] at hb
      rw [if_neg (by simp only [rdI]; omega)] at hK
      conv => whnf
      refine ObjK.mk _ (Heap.upd_same) ?_
      conv => whnf
      refine Rq.mk (by exact ⟨rfl, .inl rfl, id⟩) ?_
      conv => whnf
      rw [Heap.upd_upd]
      exact Fin.same hK
    · simp only [decide_eq_false_iff_not] at hb
      conv => whnf
      refine GB.mk (fun hc => ?_) (fun hc => ?_)
      · simp only [decide_eq_true_eq] at hc
        rw [if_neg (by simp only [rdI]; omega)] at hK
        conv => whnf
        refine ObjK.mk _ (Heap.upd_same) ?_
        conv => whnf
        refine Rq.mk (by exact ⟨rfl, .inl rfl, id⟩) ?_
        conv => whnf
        rw [Heap.upd_upd]
        exact Fin.same hK
      · simp only [decide_eq_false_iff_not] at hc
        rw [if_pos (by simp only [rdI]; omega)] at hK
        conv => whnf
        exact Fin.same hK

theorem Rd.take_ok {r : Rd} (ok : r.ok) (k : Nat) : (r.take k).2.ok := (r.take_eats k).1.ok ok
theorem Rd.int_ok {r : Rd} (ok : r.ok) (lo hi : Int) : (r.int lo hi).2.ok := (r.int_eats lo hi).1.ok ok

theorem rbytes_c (o : Nat) (r : Rd) (most : Int) (hb : r.b.length ≤ 1099511627776) (hm : most ≤ 1099511627776) (ok : r.ok) (h : Heap) (ho : h o = some (RO r)) (K : AV → Heap → Prop)
    (hK : K (.d (BL (r.bytes most).1)) (h.upd o (RO (r.bytes most).2))) :
    C Try.prog (fun q => q = o) 22 [.d (.ptr o 0), .d (.int .i64 most)] h K := by
  obtain ⟨e1, e2, e3⟩ := r.int_eats 0 most
  have hn : 0 ≤ (r.int 0 most).1 ∧ (r.int 0 most).1 ≤ 1099511627776 := by
    by_cases h0 : (r.int 0 most).2.e = 0
    · have := e2 h0; omega
    · rw [e3 h0]; omega
  have hb' : (r.int 0 most).2.b.length ≤ 1099511627776 := by rw [e1.b]; exact hb
  have ok' := Rd.int_ok ok 0 most
  unfold Rd.bytes at hK
  refine C.of_body lay layf mixed (gl := fun _ => false) (dr := fun _ => none) _ _ _ Try.func22 rfl rfl rfl rfl rfl rfl ?_
  conv => whnf
  refine CallX.mk (fun q => q = o) (fun q hq => ⟨.inl hq, id⟩) (rint_c o r 0 most hb ok h ho _ ?_)
  conv => whnf
  generalize (r.int 0 most) = p at *
  obtain ⟨n, r1⟩ := p
  dsimp only at hn hb' ok' hK ⊢
  obtain ⟨k, rfl⟩ : ∃ k : Nat, n = k := ⟨n.toNat, by omega⟩
  simp only [Int.toNat_natCast] at hK
  have ht := (r1.take_eats k).2.2
  refine CallX.mk (fun q => q = o) (fun q hq => ⟨.inl hq, id⟩) (rtake_c o r1 k hb' (by omega) ok' _ Heap.upd_same _ ?_)
  conv => whnf
  rw [Heap.upd_upd]
  refine CallX.mk _ (fun _ h => h.elim) (clone_l _ _ (by omega) (u8s_length _) _ _ ?_)
  conv => whnf
  exact Fin.same hK

theorem rflag_c (o : Nat) (r : Rd) (hb : r.b.length ≤ 1099511627776) (ok : r.ok) (h : Heap) (ho : h o = some (RO r)) (K : AV → Heap → Prop)
    (hK : K (.d (.bool r.flag.1)) (h.upd o (RO r.flag.2))) :
    C Try.prog (fun q => q = o) 26 [.d (.ptr o 0)] h K := by
  have hl := (r.take_eats 1).2.1
  unfold Rd.flag at hK
  refine C.of_body lay layf mixed (gl := fun _ => false) (dr := fun _ => none) _ _ _ Try.func26 rfl rfl rfl rfl rfl rfl ?_
  conv => whnf
  refine CallX.mk (fun q => q = o) (fun q hq => ⟨.inl hq, id⟩) (rtake_c o r 1 hb (by omega) ok h ho _ ?_)
  generalize (r.take 1) = p at *
  obtain ⟨x8, r1⟩ := p
  dsimp only at hl hK ⊢
  conv => whnf
  refine ObjK.mk _ (Heap.upd_same) ?_
  conv => whnf
  refine GB.mk (fun he => ?_) (fun he => ?_)
  · simp only [decide_eq_true_eq] at he
    rw [if_neg he] at hK
    conv => whnf
    exact Fin.ff hK
  simp only [decide_eq_false_iff_not, Classical.not_not] at he
  rw [if_pos he] at hK
  have h1 := hl he
  have hx := u8s_get x8 0 (by omega)
  rw [List.drop_zero] at hx
  conv => whnf
  refine Rq.mk (by exact ⟨by decide, by omega⟩) ?_
  conv => whnf
  refine SubO.mk _ hx (by simp [u8s_length]; omega) ?_
  conv => whnf
  refine GB.mk (fun hc => ?_) (fun hc => ?_)
  · simp only [decide_eq_true_eq] at hc
    rw [if_neg (by omega)] at hK
    conv => whnf
    refine ObjK.mk _ (Heap.upd_same) ?_
    conv => whnf
    refine Rq.mk (by exact ⟨rfl, .inl rfl, id⟩) ?_
    conv => whnf
    refine Rq.mk (by exact ⟨by decide, by omega⟩) ?_
    conv => whnf
    refine SubO.mk _ hx (by simp [u8s_length]; omega) ?_
    conv => whnf
    have hq : decide (((((x8[0]?).getD (0 : UInt8)).toNat : Nat) : Int) = 1) = false := by simp; omega
    rw [Heap.upd_upd, hq]
    exact Fin.same hK
  · simp only [decide_eq_false_iff_not] at hc
    rw [if_pos (by omega)] at hK
    conv => whnf
    refine Rq.mk (by exact ⟨by decide, by omega⟩) ?_
    conv => whnf
    refine SubO.mk _ hx (by simp [u8s_length]; omega) ?_
    conv => whnf
    have hq : decide (((((x8[0]?).getD (0 : UInt8)).toNat : Nat) : Int) = 1) = (((x8[0]?).getD 0).toNat == 1) := by rw [Bool.eq_iff_iff]; simp; omega
    rw [hq]
    exact Fin.same hK

theorem rleft_c (o : Nat) (r : Rd) (hb : r.b.length ≤ 1099511627776) (ok : r.ok) (h : Heap) (ho : h o = some (RO r)) (K : AV → Heap → Prop)
    (hk : K (.d (.int .i64 ((r.b.length : Int) - r.at_))) h) : C Try.prog (fun _ => False) 28 [.d (.ptr o 0)] h K := by
  have ha := ok.1
  refine C.of_body lay layf mixed (gl := fun _ => false) (dr := fun r => match r with | 3 => some (.flo 0 (.flo 1 (.flo 2 (.flo 3 (.flo 4 (.flo 5 (.flo 6 (.flo 7 (.flo 8 (.flo 9 (.flo 10 (.fin)))))))))))) | _ => none) _ _ _ Try.func28 rfl rfl rfl rfl (by kernel_rfl) rfl ?_
  conv => whnf
  refine ObjK.mk _ (ho) ?_
  conv => whnf
  refine ObjK.mk _ (ho) ?_
  conv => whnf
  refine Wr.i64 (y := (r.b.length : Int) - r.at_) rfl (by omega) (by omega) ?_
  conv => whnf
  exact Fin.same hk

theorem rerr_c (o : Nat) (r : Rd) (h : Heap) (ho : h o = some (RO r)) (K : AV → Heap → Prop) (hk : K (.d (.int .i64 r.e)) h) : C Try.prog (fun _ => False) 23 [.d (.ptr o 0)] h K := by
  refine C.of_body lay layf mixed (gl := fun _ => false) (dr := fun _ => none) _ _ _ Try.func23 rfl rfl rfl rfl rfl rfl ?_
  conv => whnf
  refine ObjK.mk _ (ho) ?_
  conv => whnf
  exact Fin.same hk
end Go.Proofs.Ytjnhijpophmmgaa
