/- RvPack: what functions of the program that the law reaches compute, each stated as a contract, for the law ImageAny. -/
import Derived.Test.YtjnhijpophmmgaaRvLayZ
import Derived.Test.YtjnhijpophmmgaaRvModel
set_option linter.unusedVariables false
set_option linter.unusedSimpArgs false
namespace Go.Proofs.Ytjnhijpophmmgaa
open Go Go.Proofs.Rv
/-- A slice of bytes of its own. -/
def AB (h : Heap) (cs : List FV) (n : Nat) : AV → Heap → Prop := fun r h' => ∃ c, AccOK h c n cs ∧ r = .d (.acc c n) ∧ h' = accH h c ⟨cs, 5, 1, false, true⟩

theorem clone_c (n : Nat) (cs : List FV) (hn : n ≤ 1099511627776) (hl : cs.length = n) (h : Heap) : C Try.prog (fun _ => False) 45 [.d (.lst n cs)] h (AB h cs n) := by
  refine C.of_body lay layf mixed (gl := fun t => Nat.beq t 5) (dr := fun _ => none) _ _ _ Try.func45 rfl rfl rfl rfl rfl rfl ?_
  conv => whnf
  refine NilX.mk (fun h0 => ?_) ?_
  · conv => whnf
    subst h0
    obtain rfl := List.eq_nil_of_length_eq_zero hl
    exact Fin.nilA ⟨none, .none_, rfl, rfl⟩
  · conv => whnf
    refine NewK.mk fun o ho => ?_
    conv => whnf
    refine Rq.mk (by simp [hl]) ?_
    conv => whnf
    refine ObjK.mk _ (Heap.upd_same) ?_
    conv => whnf
    refine Rq.mk ⟨⟨rfl, rfl, rfl, rfl, .inr ho, by omega⟩, id⟩ ?_
    conv => whnf
    refine NewK.mk fun p hp => ?_
    conv => whnf
    refine Nm.mk cs rfl ?_
    conv => whnf
    rw [Nat.zero_add, Heap.renew ho]
    exact Fin.refA ⟨some p, .some_ (Heap.upd_none hp).2, rfl, rfl⟩

theorem clone_l (n : Nat) (cs : List FV) (hn : n ≤ 1099511627776) (hl : cs.length = n) (h : Heap) (K : AV → Heap → Prop) (hk : K (.d (.lst n cs)) h) : C Try.prog (fun _ => False) 45 [.d (.lst n cs)] h K :=
  (clone_c n cs hn hl h).acc hk

theorem pint_c (k : Nat) (cs : List FV) (hk : k ≤ 549755813888) (hl : cs.length = k) (n : Int) (h : Heap) :
    C Try.prog (fun _ => False) 20 [.d (.lst k cs), .d (.int .i64 n)] h (AB h (cs ++ u8s (wI n)) (k + 8)) := by
  refine C.of_body lay layf mixed (gl := fun _ => false) (dr := fun _ => none) _ _ _ Try.func20 rfl rfl rfl rfl rfl rfl ?_
  conv => whnf
  refine CallX.mk _ (fun _ h => h.elim) ((clone_c k cs (by omega) hl h).mono (fun _ h => h) ?_)
  rintro _ _ ⟨c, ok, rfl, rfl⟩
  conv => whnf
  refine LoopX.mk lay layf mixed (gl := fun _ => false) (dr := fun _ => none) (α := {x : Option Nat × Nat // x.2 ≤ 8 ∧ AccOK h x.1 (k + x.2) (cs ++ (u8s (wI n)).take x.2)})
    (fun x => ⟨[.d (.lst k cs), .d (.int .i64 n), .undef, .undef, .d .nils, .d (.acc x.1.1 (k + x.1.2)), .undef, .undef, .undef, .d (.int .i64 x.1.2), .undef, .undef, .undef, .undef, .undef, .undef, .undef, .undef, .undef, .undef, .undef, .undef], [], accH h x.1.1 ⟨cs ++ (u8s (wI n)).take x.1.2, 5, 1, false, true⟩⟩)
    (fun x => 8 - x.1.2) ⟨(c, 0), by simp, by simpa using ok⟩ (Le.of (by simp [leT]) (fun _ _ h => h) (by simp)) rfl ?_
  rintro ⟨⟨c, i⟩, hi, ok⟩
  dsimp only at hi ok ⊢
  conv => whnf
  refine GB.mk (fun hb => ?_) (fun hb => ?_)
  · simp only [decide_eq_true_eq] at hb
    conv => whnf
    refine Wr.i64 (y := 8 * i) rfl (by omega) (by omega) ?_
    conv => whnf
    refine Rq.mk (by omega) ?_
    conv => whnf
    refine Wr.eq (wrap_by8 _) ?_
    conv => whnf
    refine Rq.mk (by rfl) ?_
    conv => whnf
    refine AccX.mk h _ rfl ok (fun o ho => .inr (ok.fresh o ho)) (fun _ _ => id) (by simp [hl, u8s_length, wI_length]; omega) (by omega) fun c' ok' => ?_
    refine Nm.mk (cs ++ (u8s (wI n)).take (i + 1)) (by rw [wI_take n (by omega), fdiv_pow n (by omega), List.append_assoc]) ?_
    conv => whnf
    refine Wr.i64 (y := ((i + 1 : Nat) : Int)) (by omega) (by omega) (by omega) ?_
    conv => whnf
    refine ⟨⟨(c', i + 1), by dsimp only; omega, by rw [wI_take n (by omega), ← List.append_assoc]; rw [fdiv_pow n (by omega)] at ok'; exact ok'⟩, by dsimp only; omega, Le.of (by simp [leT, Nat.add_assoc]) (fun _ _ h => h) (fun _ _ h => h)⟩
  · have hi8 : i = 8 := by simp at hb; omega
    subst hi8
    conv => whnf
    refine ⟨_, Le.refl _, ?_⟩
    conv => whnf
    rw [List.take_of_length_le (by simp [u8s_length, wI_length])] at ok ⊢
    exact Fin.same ⟨c, ok, rfl, rfl⟩

theorem pint_l (bs : List UInt8) (hk : bs.length ≤ 549755813888) (n : Int) (h : Heap) (K : AV → Heap → Prop) (hK : K (.d (BL (bs ++ wI n))) h) : C Try.prog (fun _ => False) 20 [.d (BL bs), .d (.int .i64 n)] h K :=
  (pint_c _ _ hk (u8s_length bs) n h).acc (by rw [← u8s_append, ← wI_length n, ← List.length_append]; exact hK)

theorem pbytes_c (k : Nat) (cs : List FV) (hk : k ≤ 274877906944) (hl : cs.length = k) (x : Nat) (xs : List FV) (hx : x ≤ 274877906944) (hxl : xs.length = x) (h : Heap) :
    C Try.prog (fun _ => False) 14 [.d (.lst k cs), .d (.lst x xs)] h (AB h (cs ++ u8s (wI x) ++ xs) (k + 8 + x)) := by
  refine C.of_body lay layf mixed (gl := fun _ => false) (dr := fun _ => none) _ _ _ Try.func14 rfl rfl rfl rfl rfl rfl ?_
  conv => whnf
  refine CallX.mk _ (fun _ h => h.elim) ((pint_c k cs (by omega) hl x h).mono (fun _ h => h) ?_)
  rintro _ _ ⟨c, ok, rfl, rfl⟩
  conv => whnf
  refine Rq.mk (by simp [hxl]) ?_
  conv => whnf
  refine AccX.mk h _ rfl ok (fun o ho => .inr (ok.fresh o ho)) (fun _ _ => id) (by simp [hl, u8s_length, wI_length]) (by omega) fun c' ok' => ?_
  refine Nm.mk _ rfl ?_
  conv => whnf
  exact Fin.same ⟨c', ok', rfl, rfl⟩

theorem pbytes_l (bs : List UInt8) (hk : bs.length ≤ 274877906944) (xs : List UInt8) (hx : xs.length ≤ 274877906944) (h : Heap) (K : AV → Heap → Prop) (hK : K (.d (BL (bs ++ (wI xs.length ++ xs)))) h) :
    C Try.prog (fun _ => False) 14 [.d (BL bs), .d (BL xs)] h K :=
  (pbytes_c _ _ hk (u8s_length bs) _ _ hx (u8s_length xs) h).acc (by
    have e : bs.length + 8 + xs.length = (bs ++ (wI xs.length ++ xs)).length := by simp [wI_length]; omega
    rw [← u8s_append, ← u8s_append, List.append_assoc, e]; exact hK)

theorem pflag_c (k : Nat) (cs : List FV) (hk : k ≤ 274877906944) (hl : cs.length = k) (b : Bool) (h : Heap) :
    C Try.prog (fun _ => False) 16 [.d (.lst k cs), .d (.bool b)] h (AB h (cs ++ [.int .u8 ((wF b).toNat : Int)]) (k + 1)) := by
  refine C.of_body lay layf mixed (gl := fun _ => false) (dr := fun _ => none) _ _ _ Try.func16 rfl rfl rfl rfl rfl rfl ?_
  conv => whnf
  refine GB.mk (fun hb => ?_) (fun hb => ?_)
  · subst hb
    conv => whnf
    refine CallX.mk _ (fun _ h => h.elim) ((clone_c k cs (by omega) hl h).mono (fun _ h => h) ?_)
    rintro _ _ ⟨c, ok, rfl, rfl⟩
    conv => whnf
    refine Rq.mk (by rfl) ?_
    conv => whnf
    refine AccX.mk h _ rfl ok (fun o ho => .inr (ok.fresh o ho)) (fun _ _ => id) (by simp [hl]) (by omega) fun c' ok' => ?_
    refine Nm.mk _ rfl ?_
    conv => whnf
    exact Fin.same ⟨c', ok', rfl, rfl⟩
  · subst hb
    conv => whnf
    refine CallX.mk _ (fun _ h => h.elim) ((clone_c k cs (by omega) hl h).mono (fun _ h => h) ?_)
    rintro _ _ ⟨c, ok, rfl, rfl⟩
    conv => whnf
    refine Rq.mk (by rfl) ?_
    conv => whnf
    refine AccX.mk h _ rfl ok (fun o ho => .inr (ok.fresh o ho)) (fun _ _ => id) (by simp [hl]) (by omega) fun c' ok' => ?_
    refine Nm.mk _ rfl ?_
    conv => whnf
    exact Fin.same ⟨c', ok', rfl, rfl⟩

theorem pflag_l (bs : List UInt8) (hk : bs.length ≤ 274877906944) (b : Bool) (h : Heap) (K : AV → Heap → Prop) (hK : K (.d (BL (bs ++ [wF b]))) h) : C Try.prog (fun _ => False) 16 [.d (BL bs), .d (.bool b)] h K :=
  (pflag_c _ _ hk (u8s_length bs) b h).acc (by
    have e : bs.length + 1 = (bs ++ [wF b]).length := by simp
    rw [show [FV.int .u8 ((wF b).toNat : Int)] = u8s [wF b] from rfl, ← u8s_append, e]; exact hK)
end Go.Proofs.Ytjnhijpophmmgaa
