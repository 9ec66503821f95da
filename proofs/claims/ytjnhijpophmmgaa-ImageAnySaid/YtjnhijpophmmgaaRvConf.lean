/- RvConf: what functions of the program that the law reaches compute, each stated as a contract, for the law ImageAny. -/
import Derived.Test.YtjnhijpophmmgaaRvRead
set_option linter.unusedVariables false
set_option linter.unusedSimpArgs false
namespace Go.Proofs.Ytjnhijpophmmgaa
open Go Go.Proofs.Rv
set_option maxRecDepth 20000
/-- Settings. -/
structure Cf where
  id : Int
  me : Int
  un : Int
  bl : Int
  ca : Int
  zo : Int
  sp : Int
  mt : Int
  op : Int
  ac : Int
  li : Int

def cfL (c : Cf) : List FV := [.int .i64 c.id, .int .i64 c.me, .int .i64 c.un, .int .i64 c.bl, .int .i64 c.ca, .int .i64 c.zo, .int .i64 c.sp, .int .i64 c.mt, .int .i64 c.op, .int .i64 c.ac, .int .i64 c.li]
def CO (c : Cf) : Rv.Obj := ⟨cfL c, 26, 11, false, false⟩
def nums (o : Nat) : List FV := [.ptr o 1, .ptr o 2, .ptr o 3, .ptr o 4, .ptr o 5, .ptr o 6, .ptr o 7, .ptr o 8, .ptr o 9, .ptr o 10]

structure Sane (c : Cf) : Prop where
  me : 1 ≤ c.me ∧ c.me ≤ 1048576
  un : 1 ≤ c.un ∧ c.un ≤ 1048576
  bl : 1 ≤ c.bl ∧ c.bl ≤ 1048576
  ca : 1 ≤ c.ca ∧ c.ca ≤ 1048576
  zo : 1 ≤ c.zo ∧ c.zo ≤ 1048576
  sp : 1 ≤ c.sp ∧ c.sp ≤ 1048576
  mt : 1 ≤ c.mt ∧ c.mt ≤ 1048576
  op : 1 ≤ c.op ∧ c.op ≤ 1048576
  ac : 1 ≤ c.ac ∧ c.ac ≤ 1048576
  li : 1 ≤ c.li ∧ c.li ≤ 1048576

theorem numbers_c (o : Nat) (h : Heap) (K : AV → Heap → Prop) (hk : K (.d (.lst 10 (nums o))) h) : C Try.prog (fun _ => False) 44 [.d (.ptr o 0)] h K := by
  refine C.of_body lay layf mixed (gl := fun _ => false) (dr := fun r => match r with | 1 => some (.flo 0 (.flo 1 (.flo 2 (.flo 3 (.flo 4 (.flo 5 (.flo 6 (.flo 7 (.flo 8 (.flo 9 (.flo 10 (.flo 11 (.flo 12 (.flo 13 (.flo 14 (.flo 15 (.flo 16 (.flo 17 (.flo 18 (.flo 19 (.flo 20 (.flo 21 (.flo 22 (.flo 23 (.flo 24 (.flo 25 (.flo 26 (.flo 27 (.flo 28 (.flo 29 (.alt 30 (.flo 31 (.fin)) (.non)))))))))))))))))))))))))))))))) | _ => none) _ _ _ Try.func44 rfl rfl rfl rfl (by kernel_rfl) rfl ?_
  conv => whnf
  simp only [Nat.zero_add]
  exact Fin.same hk

theorem sane_c (o : Nat) (c : Cf) (h : Heap) (ho : h o = some (CO c)) (K : AV → Heap → Prop) (hT : Sane c → K (.d (.bool true)) h) (hF : ¬ Sane c → K (.d (.bool false)) h) :
    C Try.prog (fun _ => False) 55 [.d (.lst 10 (nums o))] h K := by
  refine C.of_body lay layf mixed (gl := fun _ => false) (dr := fun _ => none) _ _ _ Try.func55 rfl rfl rfl rfl rfl rfl ?_
  conv => whnf
  refine LoopX.unroll lay layf mixed (gl := fun _ => false) (dr := fun _ => none) 11 rfl ?_
  conv => whnf
  refine GB.mk (fun _ => ?_) (fun h => absurd h (by decide))
  conv => whnf
  refine Rq.mk (by decide) ?_
  conv => whnf
  refine SubO.mk [.ptr o 1] rfl (by simp [nums]) ?_
  conv => whnf
  refine ObjK.mk _ (ho) ?_
  conv => whnf
  refine GB.mk (fun hx => ?_) (fun a0 => ?_)
  · conv => whnf
    exact Fin.ff (hF (fun hs => by have := hs.me; simp only [decide_eq_true_eq] at hx; omega))
  conv => whnf
  refine ObjK.mk _ (ho) ?_
  conv => whnf
  refine GB.mk (fun hx => ?_) (fun b0 => ?_)
  · conv => whnf
    exact Fin.ff (hF (fun hs => by have := hs.me; simp only [decide_eq_true_eq] at hx; omega))
  conv => whnf
  refine Wr.i64 (y := 1) (by decide) (by decide) (by decide) ?_
  conv => whnf
  refine GB.mk (fun _ => ?_) (fun h => absurd h (by decide))
  conv => whnf
  refine Rq.mk (by decide) ?_
  conv => whnf
  refine SubO.mk [.ptr o 2] rfl (by simp [nums]) ?_
  conv => whnf
  refine ObjK.mk _ (ho) ?_
  conv => whnf
  refine GB.mk (fun hx => ?_) (fun a1 => ?_)
  · conv => whnf
    exact Fin.ff (hF (fun hs => by have := hs.un; simp only [decide_eq_true_eq] at hx; omega))
  conv => whnf
  refine ObjK.mk _ (ho) ?_
  conv => whnf
  refine GB.mk (fun hx => ?_) (fun b1 => ?_)
  · conv => whnf
    exact Fin.ff (hF (fun hs => by have := hs.un; simp only [decide_eq_true_eq] at hx; omega))
  conv => whnf
  refine Wr.i64 (y := 2) (by decide) (by decide) (by decide) ?_
  conv => whnf
  refine GB.mk (fun _ => ?_) (fun h => absurd h (by decide))
  conv => whnf
  refine Rq.mk (by decide) ?_
  conv => whnf
  refine SubO.mk [.ptr o 3] rfl (by simp [nums]) ?_
  conv => whnf
  refine ObjK.mk _ (ho) ?_
  conv => whnf
  refine GB.mk (fun hx => ?_) (fun a2 => ?_)
  · conv => whnf
    exact Fin.ff (hF (fun hs => by have := hs.bl; simp only [decide_eq_true_eq] at hx; omega))
  conv => whnf
  refine ObjK.mk _ (ho) ?_
  conv => whnf
  refine GB.mk (fun hx => ?_) (fun b2 => ?_)
  · conv => whnf
    exact Fin.ff (hF (fun hs => by have := hs.bl; simp only [decide_eq_true_eq] at hx; omega))
  conv => whnf
  refine Wr.i64 (y := 3) (by decide) (by decide) (by decide) ?_
  conv => whnf
  refine GB.mk (fun _ => ?_) (fun h => absurd h (by decide))
  conv => whnf
  refine Rq.mk (by decide) ?_
  conv => whnf
  refine SubO.mk [.ptr o 4] rfl (by simp [nums]) ?_
  conv => whnf
  refine ObjK.mk _ (ho) ?_
  conv => whnf
  refine GB.mk (fun hx => ?_) (fun a3 => ?_)
  · conv => whnf
    exact Fin.ff (hF (fun hs => by have := hs.ca; simp only [decide_eq_true_eq] at hx; omega))
  conv => whnf
  refine ObjK.mk _ (ho) ?_
  conv => whnf
  refine GB.mk (fun hx => ?_) (fun b3 => ?_)
  · conv => whnf
    exact Fin.ff (hF (fun hs => by have := hs.ca; simp only [decide_eq_true_eq] at hx; omega))
  conv => whnf
  refine Wr.i64 (y := 4) (by decide) (by decide) (by decide) ?_
  conv => whnf
  refine GB.mk (fun _ => ?_) (fun h => absurd h (by decide))
  conv => whnf
  refine Rq.mk (by decide) ?_
  conv => whnf
  refine SubO.mk [.ptr o 5] rfl (by simp [nums]) ?_
  conv => whnf
  refine ObjK.mk _ (ho) ?_
  conv => whnf
  refine GB.mk (fun hx => ?_) (fun a4 => ?_)
  · conv => whnf
    exact Fin.ff (hF (fun hs => by have := hs.zo; simp only [decide_eq_true_eq] at hx; omega))
  conv => whnf
  refine ObjK.mk _ (ho) ?_
  conv => whnf
  refine GB.mk (fun hx => ?_) (fun b4 => ?_)
  · conv => whnf
    exact Fin.ff (hF (fun hs => by have := hs.zo; simp only [decide_eq_true_eq] at hx; omega))
  conv => whnf
  refine Wr.i64 (y := 5) (by decide) (by decide) (by decide) ?_
  conv => whnf
  refine GB.mk (fun _ => ?_) (fun h => absurd h (by decide))
  conv => whnf
  refine Rq.mk (by decide) ?_
  conv => whnf
  refine SubO.mk [.ptr o 6] rfl (by simp [nums]) ?_
  conv => whnf
  refine ObjK.mk _ (ho) ?_
  conv => whnf
  refine GB.mk (fun hx => ?_) (fun a5 => ?_)
  · conv => whnf
    exact Fin.ff (hF (fun hs => by have := hs.sp; simp only [decide_eq_true_eq] at hx; omega))
  conv => whnf
  refine ObjK.mk _ (ho) ?_
  conv => whnf
  refine GB.mk (fun hx => ?_) (fun b5 => ?_)
  · conv => whnf
    exact Fin.ff (hF (fun hs => by have := hs.sp; simp only [decide_eq_true_eq] at hx; omega))
  conv => whnf
  refine Wr.i64 (y := 6) (by decide) (by decide) (by decide) ?_
  conv => whnf
  refine GB.mk (fun _ => ?_) (fun h => absurd h (by decide))
  conv => whnf
  refine Rq.mk (by decide) ?_
  conv => whnf
  refine SubO.mk [.ptr o 7] rfl (by simp [nums]) ?_
  conv => whnf
  refine ObjK.mk _ (ho) ?_
  conv => whnf
  refine GB.mk (fun hx => ?_) (fun a6 => ?_)
  · conv => whnf
    exact Fin.ff (hF (fun hs => by have := hs.mt; simp only [decide_eq_true_eq] at hx; omega))
  conv => whnf
  refine ObjK.mk _ (ho) ?_
  conv => whnf
  refine GB.mk (fun hx => ?_) (fun b6 => ?_)
  · conv => whnf
    exact Fin.ff (hF (fun hs => by have := hs.mt; simp only [decide_eq_true_eq] at hx; omega))
  conv => whnf
  refine Wr.i64 (y := 7) (by decide) (by decide) (by decide) ?_
  conv => whnf
  refine GB.mk (fun _ => ?_) (fun h => absurd h (by decide))
  conv => whnf
  refine Rq.mk (by decide) ?_
  conv => whnf
  refine SubO.mk [.ptr o 8] rfl (by simp [nums]) ?_
  conv => whnf
  refine ObjK.mk _ (ho) ?_
  conv => whnf
  refine GB.mk (fun hx => ?_) (fun a7 => ?_)
  · conv => whnf
    exact Fin.ff (hF (fun hs => by have := hs.op; simp only [decide_eq_true_eq] at hx; omega))
  conv => whnf
  refine ObjK.mk _ (ho) ?_
  conv => whnf
  refine GB.mk (fun hx => ?_) (fun b7 => ?_)
  · conv => whnf
    exact Fin.ff (hF (fun hs => by have := hs.op; simp only [decide_eq_true_eq] at hx; omega))
  conv => whnf
  refine Wr.i64 (y := 8) (by decide) (by decide) (by decide) ?_
  conv => whnf
  refine GB.mk (fun _ => ?_) (fun h => absurd h (by decide))
  conv => whnf
  refine Rq.mk (by decide) ?_
  conv => whnf
  refine SubO.mk [.ptr o 9] rfl (by simp [nums]) ?_
  conv => whnf
  refine ObjK.mk _ (ho) ?_
  conv => whnf
  refine GB.mk (fun hx => ?_) (fun a8 => ?_)
  · conv => whnf
    exact Fin.ff (hF (fun hs => by have := hs.ac; simp only [decide_eq_true_eq] at hx; omega))
  conv => whnf
  refine ObjK.mk _ (ho) ?_
  conv => whnf
  refine GB.mk (fun hx => ?_) (fun b8 => ?_)
  · conv => whnf
    exact Fin.ff (hF (fun hs => by have := hs.ac; simp only [decide_eq_true_eq] at hx; omega))
  conv => whnf
  refine Wr.i64 (y := 9) (by decide) (by decide) (by decide) ?_
  conv => whnf
  refine GB.mk (fun _ => ?_) (fun h => absurd h (by decide))
  conv => whnf
  refine Rq.mk (by decide) ?_
  conv => whnf
  refine SubO.mk [.ptr o 10] rfl (by simp [nums]) ?_
  conv => whnf
  refine ObjK.mk _ (ho) ?_
  conv => whnf
  refine GB.mk (fun hx => ?_) (fun a9 => ?_)
  · conv => whnf
    exact Fin.ff (hF (fun hs => by have := hs.li; simp only [decide_eq_true_eq] at hx; omega))
  conv => whnf
  refine ObjK.mk _ (ho) ?_
  conv => whnf
  refine GB.mk (fun hx => ?_) (fun b9 => ?_)
  · conv => whnf
    exact Fin.ff (hF (fun hs => by have := hs.li; simp only [decide_eq_true_eq] at hx; omega))
  conv => whnf
  refine Wr.i64 (y := 10) (by decide) (by decide) (by decide) ?_
  conv => whnf
  refine GB.mk (fun h => absurd h (by decide)) (fun _ => ?_)
  conv => whnf
  simp only [decide_eq_false_iff_not] at a0 b0 a1 b1 a2 b2 a3 b3 a4 b4 a5 b5 a6 b6 a7 b7 a8 b8 a9 b9
  exact Fin.tt (hT ⟨⟨by omega, by omega⟩, ⟨by omega, by omega⟩, ⟨by omega, by omega⟩, ⟨by omega, by omega⟩, ⟨by omega, by omega⟩, ⟨by omega, by omega⟩, ⟨by omega, by omega⟩, ⟨by omega, by omega⟩, ⟨by omega, by omega⟩, ⟨by omega, by omega⟩⟩)

/-- The same number, from the same memory. -/
def Num (n : Int) (h : Heap) : AV → Heap → Prop := fun r h' => r = .d (.int .i64 n) ∧ h' = h

theorem of_c (c : Cf) (f b : Nat) (n : Int) (h : Heap) (K : AV → Heap → Prop) (hF : ¬ Sane c → K (.d (.int .i64 0)) h) (hK : Sane c → K (.d (.int .i64 n)) h)
    (hT : Sane c → ∀ o, h o = none → C Try.prog (fun _ => False) f [.d (.ptr b 0)] (h.upd o (CO c)) (Num n (h.upd o (CO c)))) :
    C Try.prog (fun _ => False) 31 [.agg (cfL c), .d (.fn f [.ptr b 0])] h K := by
  refine C.of_body lay layf mixed (gl := fun t => Nat.beq t 2) (dr := fun _ => none) _ _ _ Try.func31 rfl rfl rfl rfl rfl rfl ?_
  conv => whnf
  refine NewK.mk fun o ho => ?_
  conv => whnf
  have hle : ∀ q ob, h q = some ob → (h.upd o (CO c)) q = some ob := fun q ob hq => by
    rw [Heap.upd_ne (by rintro rfl; rw [ho] at hq; cases hq)]; exact hq
  refine CallX.mk _ (fun _ h => h.elim) (numbers_c o _ _ ?_)
  conv => whnf
  refine CallX.mk _ (fun _ h => h.elim) (sane_c o c _ Heap.upd_same _ (fun hs => ?_) (fun hs => ?_))
  · conv => whnf
    refine GB.mk (fun h => absurd h (by simp)) (fun _ => ?_)
    conv => whnf
    refine CallX.mk _ (fun _ h => h.elim) ((hT hs o ho).mono (fun _ h => h) ?_)
    rintro r h' ⟨rfl, rfl⟩
    conv => whnf
    exact Rv.Fin.mk h hle (hK hs)
  · conv => whnf
    refine GB.mk (fun _ => ?_) (fun h => absurd h (by simp))
    conv => whnf
    exact Rv.Fin.mk h hle (hF hs)

theorem all1_c (c : Cf) (b : Nat) (h : Heap) (hb : h b = some (CO c)) (hs : Sane c) : C Try.prog (fun _ => False) 32 [.d (.ptr b 0)] h (Num (c.mt + c.zo + c.sp) h) := by
  have h1 := hs.mt
  have h2 := hs.zo
  have h3 := hs.sp
  refine C.of_body lay layf mixed (gl := fun _ => false) (dr := fun _ => none) _ _ _ Try.func32 rfl rfl rfl rfl rfl rfl ?_
  conv => whnf
  refine ObjK.mk _ (hb) ?_
  conv => whnf
  refine ObjK.mk _ (hb) ?_
  conv => whnf
  refine Wr.i64 (y := c.mt + c.zo) rfl (by omega) (by omega) ?_
  conv => whnf
  refine ObjK.mk _ (hb) ?_
  conv => whnf
  refine Wr.i64 (y := c.mt + c.zo + c.sp) rfl (by omega) (by omega) ?_
  conv => whnf
  exact Fin.same ⟨rfl, rfl⟩

theorem all_c (c : Cf) (h : Heap) (K : AV → Heap → Prop) (hF : ¬ Sane c → K (.d (.int .i64 0)) h) (hK : Sane c → K (.d (.int .i64 (c.mt + c.zo + c.sp))) h) :
    C Try.prog (fun _ => False) 11 [.agg (cfL c)] h K := by
  refine C.of_body lay layf mixed (gl := fun t => Nat.beq t 1) (dr := fun _ => none) _ _ _ Try.func11 rfl rfl rfl rfl rfl rfl ?_
  conv => whnf
  refine NewK.mk fun b hb => ?_
  conv => whnf
  have hle : ∀ q ob, h q = some ob → (h.upd b (CO c)) q = some ob := fun q ob hq => by
    rw [Heap.upd_ne (by rintro rfl; rw [hb] at hq; cases hq)]; exact hq
  refine ObjK.mk _ (Heap.upd_same) ?_
  conv => whnf
  refine CallX.mk _ (fun _ h => h.elim) (of_c c _ b (c.mt + c.zo + c.sp) _ _ (fun hs => ?_) (fun hs => ?_) (fun hs o ho => all1_c c b _ ?_ hs))
  · conv => whnf
    exact Rv.Fin.mk h hle (hF hs)
  · conv => whnf
    exact Rv.Fin.mk h hle (hK hs)
  · rw [Heap.upd_ne (by rintro rfl; rw [Heap.upd_same] at ho; cases ho), Heap.upd_same]; rfl

theorem room1_c (c : Cf) (b : Nat) (h : Heap) (hb : h b = some (CO c)) (hs : Sane c) (hz : c.zo ≤ 64) (hu : c.un ≤ 64) (hbl : c.bl ≤ 4096) :
    C Try.prog (fun _ => False) 67 [.d (.ptr b 0)] h (Num ((320 + 48 * c.zo + 8 * c.me + (c.zo + 1) * c.un * c.bl + c.bl - 1) / c.bl + 2) h) := by
  have h1 := hs.me
  have h2 := hs.zo
  have h3 := hs.un
  have h4 := hs.bl
  have p1 : 0 ≤ (c.zo + 1) * c.un := Int.mul_nonneg (by omega) (by omega)
  have p2 : (c.zo + 1) * c.un ≤ 65 * 64 := Int.mul_le_mul (by omega) (by omega) (by omega) (by omega)
  have p3 : 0 ≤ (c.zo + 1) * c.un * c.bl := Int.mul_nonneg p1 (by omega)
  have p4 : (c.zo + 1) * c.un * c.bl ≤ 65 * 64 * 4096 := Int.mul_le_mul p2 (by omega) (by omega) (by omega)
  refine C.of_body lay layf mixed (gl := fun _ => false) (dr := fun _ => none) _ _ _ Try.func67 rfl rfl rfl rfl rfl rfl ?_
  conv => whnf
  refine ObjK.mk _ (hb) ?_
  conv => whnf
  refine Wr.i64 (y := 48 * c.zo) rfl (by omega) (by omega) ?_
  conv => whnf
  refine Wr.i64 (y := 320 + 48 * c.zo) rfl (by omega) (by omega) ?_
  conv => whnf
  refine ObjK.mk _ (hb) ?_
  conv => whnf
  refine Wr.i64 (y := 8 * c.me) rfl (by omega) (by omega) ?_
  conv => whnf
  refine Wr.i64 (y := 320 + 48 * c.zo + 8 * c.me) rfl (by omega) (by omega) ?_
  conv => whnf
  refine ObjK.mk _ (hb) ?_
  conv => whnf
  refine Wr.i64 (y := c.zo + 1) rfl (by omega) (by omega) ?_
  conv => whnf
  refine ObjK.mk _ (hb) ?_
  conv => whnf
  refine Wr.i64 (y := (c.zo + 1) * c.un) rfl (by omega) (by omega) ?_
  conv => whnf
  refine ObjK.mk _ (hb) ?_
  conv => whnf
  refine Wr.i64 (y := (c.zo + 1) * c.un * c.bl) rfl (by omega) (by omega) ?_
  conv => whnf
  refine Wr.i64 (y := 320 + 48 * c.zo + 8 * c.me + (c.zo + 1) * c.un * c.bl) rfl (by omega) (by omega) ?_
  conv => whnf
  refine ObjK.mk _ (hb) ?_
  conv => whnf
  refine Wr.i64 (y := 320 + 48 * c.zo + 8 * c.me + (c.zo + 1) * c.un * c.bl + c.bl) rfl (by omega) (by omega) ?_
  conv => whnf
  refine Wr.i64 (y := 320 + 48 * c.zo + 8 * c.me + (c.zo + 1) * c.un * c.bl + c.bl - 1) rfl (by omega) (by omega) ?_
  conv => whnf
  refine ObjK.mk _ (hb) ?_
  conv => whnf
  refine Rq.mk (by omega) ?_
  conv => whnf
  have q0 : 0 ≤ 320 + 48 * c.zo + 8 * c.me + (c.zo + 1) * c.un * c.bl + c.bl - 1 := by omega
  have q1 : 0 ≤ (320 + 48 * c.zo + 8 * c.me + (c.zo + 1) * c.un * c.bl + c.bl - 1) / c.bl := Int.ediv_nonneg q0 (by omega)
  have q2 : (320 + 48 * c.zo + 8 * c.me + (c.zo + 1) * c.un * c.bl + c.bl - 1) / c.bl ≤ 320 + 48 * c.zo + 8 * c.me + (c.zo + 1) * c.un * c.bl + c.bl - 1 := Int.ediv_le_self _ q0
  refine Wr.i64 (y := (320 + 48 * c.zo + 8 * c.me + (c.zo + 1) * c.un * c.bl + c.bl - 1) / c.bl) (Int.tdiv_eq_ediv_of_nonneg q0) (by omega) (by omega) ?_
  conv => whnf
  refine Wr.i64 (y := (320 + 48 * c.zo + 8 * c.me + (c.zo + 1) * c.un * c.bl + c.bl - 1) / c.bl + 2) rfl (by omega) (by omega) ?_
  conv => whnf
  exact Fin.same ⟨rfl, rfl⟩

theorem room_c (c : Cf) (hs : Sane c) (hz : c.zo ≤ 64) (hu : c.un ≤ 64) (hbl : c.bl ≤ 4096) (h : Heap) (K : AV → Heap → Prop)
    (hK : K (.d (.int .i64 ((320 + 48 * c.zo + 8 * c.me + (c.zo + 1) * c.un * c.bl + c.bl - 1) / c.bl + 2))) h) :
    C Try.prog (fun _ => False) 52 [.agg (cfL c)] h K := by
  refine C.of_body lay layf mixed (gl := fun t => Nat.beq t 1) (dr := fun _ => none) _ _ _ Try.func52 rfl rfl rfl rfl rfl rfl ?_
  conv => whnf
  refine NewK.mk fun b hb => ?_
  conv => whnf
  have hle : ∀ q ob, h q = some ob → (h.upd b (CO c)) q = some ob := fun q ob hq => by
    rw [Heap.upd_ne (by rintro rfl; rw [hb] at hq; cases hq)]; exact hq
  refine ObjK.mk _ (Heap.upd_same) ?_
  conv => whnf
  refine CallX.mk _ (fun _ h => h.elim) (of_c c _ b _ _ _ (fun hs' => absurd hs hs') (fun _ => ?_) (fun _ o ho => room1_c c b _ ?_ hs hz hu hbl))
  · conv => whnf
    exact Rv.Fin.mk h hle hK
  · rw [Heap.upd_ne (by rintro rfl; rw [Heap.upd_same] at ho; cases ho), Heap.upd_same]; rfl

def roomF (c : Cf) : Int := (320 + 48 * c.zo + 8 * c.me + (c.zo + 1) * c.un * c.bl + c.bl - 1) / c.bl + 2

/-- Settings that may be. -/
structure Good (c : Cf) : Prop where
  id : 0 ≤ c.id ∧ c.id ≤ 1099511627776
  me : 3 ≤ c.me ∧ c.me ≤ 16
  un : 1 ≤ c.un ∧ c.un ≤ 64
  bl : 1 ≤ c.bl ∧ c.bl ≤ 4096
  ca : 1 ≤ c.ca ∧ c.ca ≤ 4096
  div : c.ca.tmod c.un = 0
  zo : 1 ≤ c.zo ∧ c.zo ≤ 64
  sp : 1 ≤ c.sp ∧ c.sp ≤ 64
  mt : 3 ≤ c.mt ∧ c.mt ≤ 64
  all : c.mt + c.zo + c.sp ≤ 64
  ac : 1 ≤ c.ac ∧ c.ac ≤ c.zo
  op : 1 ≤ c.op ∧ c.op ≤ c.ac
  li : c.ac + c.sp + c.mt ≤ c.li ∧ c.li ≤ 64
  room : roomF c ≤ c.ca

theorem in_c (n a b : Int) (h : Heap) (K : AV → Heap → Prop) (hK : K (.d (.bool (decide (a ≤ n ∧ n ≤ b)))) h) :
    C Try.prog (fun _ => False) 51 [.d (.int .i64 n), .d (.int .i64 a), .d (.int .i64 b)] h K := by
  refine C.of_body lay layf mixed (gl := fun _ => false) (dr := fun _ => none) _ _ _ Try.func51 rfl rfl rfl rfl rfl rfl ?_
  conv => whnf
  refine GB.mk (fun hx => ?_) (fun hx => ?_)
  · conv => whnf
    simp only [decide_eq_true_eq] at hx
    rw [show decide (a ≤ n ∧ n ≤ b) = decide (n ≤ b) by simp [hx]] at hK
    exact Fin.same hK
  · conv => whnf
    simp only [decide_eq_false_iff_not] at hx
    rw [show decide (a ≤ n ∧ n ≤ b) = false by simp [hx]] at hK
    exact Fin.ff hK

theorem check_c (c : Cf) (h : Heap) (K : AV → Heap → Prop) (hT : Good c → K (.d (.int .i64 0)) h) (hF : ¬ Good c → ∀ e : Int, e ≠ 0 → K (.d (.int .i64 e)) h) :
    C Try.prog (fun _ => False) 25 [.agg (cfL c)] h K := by
  refine C.of_body lay layf mixed (gl := fun _ => false) (dr := fun r => match r with | 10 => some (.flo 0 (.flo 2 (.flo 3 (.alt 1 (.flo 4 (.flo 5 (.fin))) (.non))))) | _ => none) _ _ _ Try.func25 rfl rfl rfl rfl (by kernel_rfl) rfl ?_
  conv => whnf
  refine CallX.mk _ (fun _ h => h.elim) (in_c _ _ _ _ _ ?_)
  conv => whnf
  refine GB.mk (fun hx => ?_) (fun hid => ?_)
  · conv => whnf
    exact Fin.same (hF (fun hg => by have := hg.id; simp at hx; omega) _ (by decide))
  simp only [Bool.not_eq_false', decide_eq_true_eq] at hid
  conv => whnf
  refine CallX.mk _ (fun _ h => h.elim) (in_c _ _ _ _ _ ?_)
  conv => whnf
  refine GB.mk (fun hx => ?_) (fun hme => ?_)
  · conv => whnf
    exact Fin.same (hF (fun hg => by have := hg.me; simp at hx; omega) _ (by decide))
  simp only [Bool.not_eq_false', decide_eq_true_eq] at hme
  conv => whnf
  refine CallX.mk _ (fun _ h => h.elim) (in_c _ _ _ _ _ ?_)
  conv => whnf
  refine GB.mk (fun hx => ?_) (fun hun => ?_)
  · conv => whnf
    exact Fin.same (hF (fun hg => by have := hg.un; simp at hx; omega) _ (by decide))
  simp only [Bool.not_eq_false', decide_eq_true_eq] at hun
  conv => whnf
  refine CallX.mk _ (fun _ h => h.elim) (in_c _ _ _ _ _ ?_)
  conv => whnf
  refine GB.mk (fun hx => ?_) (fun hbl => ?_)
  · conv => whnf
    exact Fin.same (hF (fun hg => by have := hg.bl; simp at hx; omega) _ (by decide))
  simp only [Bool.not_eq_false', decide_eq_true_eq] at hbl
  conv => whnf
  refine CallX.mk _ (fun _ h => h.elim) (in_c _ _ _ _ _ ?_)
  conv => whnf
  refine GB.mk (fun hx => ?_) (fun hca => ?_)
  · conv => whnf
    exact Fin.same (hF (fun hg => by have := hg.ca; simp at hx; omega) _ (by decide))
  simp only [Bool.not_eq_false', decide_eq_true_eq] at hca
  conv => whnf
  refine Rq.mk (by omega) ?_
  conv => whnf
  refine GB.mk (fun hx => ?_) (fun hdiv => ?_)
  · conv => whnf
    exact Fin.same (hF (fun hg => by have := hg.div; simp at hx; omega) _ (by decide))
  simp only [decide_eq_false_iff_not, Classical.not_not] at hdiv
  conv => whnf
  refine CallX.mk _ (fun _ h => h.elim) (in_c _ _ _ _ _ ?_)
  conv => whnf
  refine GB.mk (fun hx => ?_) (fun hzo => ?_)
  · conv => whnf
    exact Fin.same (hF (fun hg => by have := hg.zo; simp at hx; omega) _ (by decide))
  simp only [Bool.not_eq_false', decide_eq_true_eq] at hzo
  conv => whnf
  refine CallX.mk _ (fun _ h => h.elim) (in_c _ _ _ _ _ ?_)
  conv => whnf
  refine GB.mk (fun hx => ?_) (fun hsp => ?_)
  · conv => whnf
    exact Fin.same (hF (fun hg => by have := hg.sp; simp at hx; omega) _ (by decide))
  simp only [Bool.not_eq_false', decide_eq_true_eq] at hsp
  conv => whnf
  refine CallX.mk _ (fun _ h => h.elim) (in_c _ _ _ _ _ ?_)
  conv => whnf
  refine GB.mk (fun hx => ?_) (fun hmt => ?_)
  · conv => whnf
    exact Fin.same (hF (fun hg => by have := hg.mt; simp at hx; omega) _ (by decide))
  simp only [Bool.not_eq_false', decide_eq_true_eq] at hmt
  conv => whnf
  have hx64 : True := trivial
  refine CallX.mk _ (fun _ h => h.elim) (all_c c _ _ (fun hns => ?_) (fun hs => ?_))
  · conv => whnf
    refine GB.mk (fun h => absurd h (by simp)) (fun _ => ?_)
    conv => whnf
    refine CallX.mk _ (fun _ h => h.elim) (in_c _ _ _ _ _ ?_)
    conv => whnf
    refine GB.mk (fun hx => ?_) (fun hac => ?_)
    · conv => whnf
      exact Fin.same (hF (fun hg => by have := hg.ac; simp at hx; omega) _ (by decide))
    simp only [Bool.not_eq_false', decide_eq_true_eq] at hac
    conv => whnf
    refine CallX.mk _ (fun _ h => h.elim) (in_c _ _ _ _ _ ?_)
    conv => whnf
    refine GB.mk (fun hx => ?_) (fun hop => ?_)
    · conv => whnf
      exact Fin.same (hF (fun hg => by have := hg.op; simp at hx; omega) _ (by decide))
    simp only [Bool.not_eq_false', decide_eq_true_eq] at hop
    conv => whnf
    refine Wr.i64 (y := c.ac + c.sp) rfl (by omega) (by omega) ?_
    conv => whnf
    refine Wr.i64 (y := c.ac + c.sp + c.mt) rfl (by omega) (by omega) ?_
    conv => whnf
    refine CallX.mk _ (fun _ h => h.elim) (in_c _ _ _ _ _ ?_)
    conv => whnf
    refine GB.mk (fun hx => ?_) (fun hli => ?_)
    · conv => whnf
      exact Fin.same (hF (fun hg => by have := hg.li; simp at hx; omega) _ (by decide))
    simp only [Bool.not_eq_false', decide_eq_true_eq] at hli
    conv => whnf
    exact absurd ⟨by omega, by omega, by omega, by omega, by omega, by omega, by omega, by omega, by omega, by omega⟩ hns
  · conv => whnf
    refine GB.mk (fun hx => ?_) (fun hall => ?_)
    · conv => whnf
      exact Fin.same (hF (fun hg => by have := hg.all; simp at hx; omega) _ (by decide))
    simp only [decide_eq_false_iff_not] at hall
    conv => whnf
    refine CallX.mk _ (fun _ h => h.elim) (in_c _ _ _ _ _ ?_)
    conv => whnf
    refine GB.mk (fun hx => ?_) (fun hac => ?_)
    · conv => whnf
      exact Fin.same (hF (fun hg => by have := hg.ac; simp at hx; omega) _ (by decide))
    simp only [Bool.not_eq_false', decide_eq_true_eq] at hac
    conv => whnf
    refine CallX.mk _ (fun _ h => h.elim) (in_c _ _ _ _ _ ?_)
    conv => whnf
    refine GB.mk (fun hx => ?_) (fun hop => ?_)
    · conv => whnf
      exact Fin.same (hF (fun hg => by have := hg.op; simp at hx; omega) _ (by decide))
    simp only [Bool.not_eq_false', decide_eq_true_eq] at hop
    conv => whnf
    refine Wr.i64 (y := c.ac + c.sp) rfl (by omega) (by omega) ?_
    conv => whnf
    refine Wr.i64 (y := c.ac + c.sp + c.mt) rfl (by omega) (by omega) ?_
    conv => whnf
    refine CallX.mk _ (fun _ h => h.elim) (in_c _ _ _ _ _ ?_)
    conv => whnf
    refine GB.mk (fun hx => ?_) (fun hli => ?_)
    · conv => whnf
      exact Fin.same (hF (fun hg => by have := hg.li; simp at hx; omega) _ (by decide))
    simp only [Bool.not_eq_false', decide_eq_true_eq] at hli
    conv => whnf
    refine CallX.mk _ (fun _ h => h.elim) (room_c c hs hzo.2 hun.2 hbl.2 _ _ ?_)
    conv => whnf
    refine GB.mk (fun hx => ?_) (fun hx => ?_)
    · conv => whnf
      exact Fin.same (hF (fun hg => by have := hg.room; simp only [roomF] at this; simp only [decide_eq_true_eq] at hx; omega) _ (by decide))
    · conv => whnf
      simp only [decide_eq_false_iff_not] at hx
      exact Fin.same (hT ⟨hid, hme, hun, hbl, hca, hdiv, hzo, hsp, hmt, by omega, hac, hop, hli, by simp only [roomF]; omega⟩)

/-- Settings, as bytes. -/
def cfB (c : Cf) : List UInt8 := wI c.id ++ wI c.me ++ wI c.un ++ wI c.bl ++ wI c.ca ++ wI c.zo ++ wI c.sp ++ wI c.mt ++ wI c.op ++ wI c.ac ++ wI c.li
theorem cfB_length (c : Cf) : (cfB c).length = 88 := by simp [cfB, wI_length]

theorem put_c (c : Cf) (h : Heap) (K : AV → Heap → Prop) (hK : K (.d (BL (cfB c))) h) : C Try.prog (fun _ => False) 15 [.agg (cfL c)] h K := by
  refine C.of_body lay layf mixed (gl := fun t => Nat.beq t 1) (dr := fun _ => none) _ _ _ Try.func15 rfl rfl rfl rfl rfl rfl ?_
  conv => whnf
  refine NewK.mk fun o ho => ?_
  conv => whnf
  refine ObjK.mk _ (Heap.upd_same) ?_
  conv => whnf
  refine CallX.mk _ (fun _ h => h.elim) (C.nils [] _ (pint_l [] (by simp) _ _ _ ?_))
  conv => whnf
  refine CallX.mk _ (fun _ h => h.elim) (numbers_c o _ _ ?_)
  conv => whnf
  refine LoopX.unroll lay layf mixed (gl := fun t => Nat.beq t 1) (dr := fun _ => none) 11 rfl ?_
  conv => whnf
  refine GB.mk (fun _ => ?_) (fun h => absurd h (by decide))
  conv => whnf
  refine Rq.mk (by decide) ?_
  conv => whnf
  refine SubO.mk [.ptr o 1] rfl (by simp [nums]) ?_
  conv => whnf
  refine ObjK.mk _ (Heap.upd_same) ?_
  conv => whnf
  refine CallX.mk _ (fun _ h => h.elim) (pint_l (wI c.id) (by simp [wI_length]) _ _ _ ?_)
  conv => whnf
  refine Wr.i64 (y := 1) (by decide) (by decide) (by decide) ?_
  conv => whnf
  refine GB.mk (fun _ => ?_) (fun h => absurd h (by decide))
  conv => whnf
  refine Rq.mk (by decide) ?_
  conv => whnf
  refine SubO.mk [.ptr o 2] rfl (by simp [nums]) ?_
  conv => whnf
  refine ObjK.mk _ (Heap.upd_same) ?_
  conv => whnf
  refine CallX.mk _ (fun _ h => h.elim) (pint_l (wI c.id ++ wI c.me) (by simp [wI_length]) _ _ _ ?_)
  conv => whnf
  refine Wr.i64 (y := 2) (by decide) (by decide) (by decide) ?_
  conv => whnf
  refine GB.mk (fun _ => ?_) (fun h => absurd h (by decide))
  conv => whnf
  refine Rq.mk (by decide) ?_
  conv => whnf
  refine SubO.mk [.ptr o 3] rfl (by simp [nums]) ?_
  conv => whnf
  refine ObjK.mk _ (Heap.upd_same) ?_
  conv => whnf
  refine CallX.mk _ (fun _ h => h.elim) (pint_l (wI c.id ++ wI c.me ++ wI c.un) (by simp [wI_length]) _ _ _ ?_)
  conv => whnf
  refine Wr.i64 (y := 3) (by decide) (by decide) (by decide) ?_
  conv => whnf
  refine GB.mk (fun _ => ?_) (fun h => absurd h (by decide))
  conv => whnf
  refine Rq.mk (by decide) ?_
  conv => whnf
  refine SubO.mk [.ptr o 4] rfl (by simp [nums]) ?_
  conv => whnf
  refine ObjK.mk _ (Heap.upd_same) ?_
  conv => whnf
  refine CallX.mk _ (fun _ h => h.elim) (pint_l (wI c.id ++ wI c.me ++ wI c.un ++ wI c.bl) (by simp [wI_length]) _ _ _ ?_)
  conv => whnf
  refine Wr.i64 (y := 4) (by decide) (by decide) (by decide) ?_
  conv => whnf
  refine GB.mk (fun _ => ?_) (fun h => absurd h (by decide))
  conv => whnf
  refine Rq.mk (by decide) ?_
  conv => whnf
  refine SubO.mk [.ptr o 5] rfl (by simp [nums]) ?_
  conv => whnf
  refine ObjK.mk _ (Heap.upd_same) ?_
  conv => whnf
  refine CallX.mk _ (fun _ h => h.elim) (pint_l (wI c.id ++ wI c.me ++ wI c.un ++ wI c.bl ++ wI c.ca) (by simp [wI_length]) _ _ _ ?_)
  conv => whnf
  refine Wr.i64 (y := 5) (by decide) (by decide) (by decide) ?_
  conv => whnf
  refine GB.mk (fun _ => ?_) (fun h => absurd h (by decide))
  conv => whnf
  refine Rq.mk (by decide) ?_
  conv => whnf
  refine SubO.mk [.ptr o 6] rfl (by simp [nums]) ?_
  conv => whnf
  refine ObjK.mk _ (Heap.upd_same) ?_
  conv => whnf
  refine CallX.mk _ (fun _ h => h.elim) (pint_l (wI c.id ++ wI c.me ++ wI c.un ++ wI c.bl ++ wI c.ca ++ wI c.zo) (by simp [wI_length]) _ _ _ ?_)
  conv => whnf
  refine Wr.i64 (y := 6) (by decide) (by decide) (by decide) ?_
  conv => whnf
  refine GB.mk (fun _ => ?_) (fun h => absurd h (by decide))
  conv => whnf
  refine Rq.mk (by decide) ?_
  conv => whnf
  refine SubO.mk [.ptr o 7] rfl (by simp [nums]) ?_
  conv => whnf
  refine ObjK.mk _ (Heap.upd_same) ?_
  conv => whnf
  refine CallX.mk _ (fun _ h => h.elim) (pint_l (wI c.id ++ wI c.me ++ wI c.un ++ wI c.bl ++ wI c.ca ++ wI c.zo ++ wI c.sp) (by simp [wI_length]) _ _ _ ?_)
  conv => whnf
  refine Wr.i64 (y := 7) (by decide) (by decide) (by decide) ?_
  conv => whnf
  refine GB.mk (fun _ => ?_) (fun h => absurd h (by decide))
  conv => whnf
  refine Rq.mk (by decide) ?_
  conv => whnf
  refine SubO.mk [.ptr o 8] rfl (by simp [nums]) ?_
  conv => whnf
  refine ObjK.mk _ (Heap.upd_same) ?_
  conv => whnf
  refine CallX.mk _ (fun _ h => h.elim) (pint_l (wI c.id ++ wI c.me ++ wI c.un ++ wI c.bl ++ wI c.ca ++ wI c.zo ++ wI c.sp ++ wI c.mt) (by simp [wI_length]) _ _ _ ?_)
  conv => whnf
  refine Wr.i64 (y := 8) (by decide) (by decide) (by decide) ?_
  conv => whnf
  refine GB.mk (fun _ => ?_) (fun h => absurd h (by decide))
  conv => whnf
  refine Rq.mk (by decide) ?_
  conv => whnf
  refine SubO.mk [.ptr o 9] rfl (by simp [nums]) ?_
  conv => whnf
  refine ObjK.mk _ (Heap.upd_same) ?_
  conv => whnf
  refine CallX.mk _ (fun _ h => h.elim) (pint_l (wI c.id ++ wI c.me ++ wI c.un ++ wI c.bl ++ wI c.ca ++ wI c.zo ++ wI c.sp ++ wI c.mt ++ wI c.op) (by simp [wI_length]) _ _ _ ?_)
  conv => whnf
  refine Wr.i64 (y := 9) (by decide) (by decide) (by decide) ?_
  conv => whnf
  refine GB.mk (fun _ => ?_) (fun h => absurd h (by decide))
  conv => whnf
  refine Rq.mk (by decide) ?_
  conv => whnf
  refine SubO.mk [.ptr o 10] rfl (by simp [nums]) ?_
  conv => whnf
  refine ObjK.mk _ (Heap.upd_same) ?_
  conv => whnf
  refine CallX.mk _ (fun _ h => h.elim) (pint_l (wI c.id ++ wI c.me ++ wI c.un ++ wI c.bl ++ wI c.ca ++ wI c.zo ++ wI c.sp ++ wI c.mt ++ wI c.op ++ wI c.ac) (by simp [wI_length]) _ _ _ ?_)
  conv => whnf
  refine Wr.i64 (y := 10) (by decide) (by decide) (by decide) ?_
  conv => whnf
  refine GB.mk (fun h => absurd h (by decide)) (fun _ => ?_)
  conv => whnf
  exact Rv.Fin.mk h (Heap.sub_upd ho) hK

def wM : Int := 4611686018427387904
/-- Settings, as they are read. -/
def getP (b : List UInt8) : Cf × Rd :=
  let r := (Rd.mk b 0 0).int (-wM) wM
  let r0 := r.2.int (-wM) wM
  let r1 := r0.2.int (-wM) wM
  let r2 := r1.2.int (-wM) wM
  let r3 := r2.2.int (-wM) wM
  let r4 := r3.2.int (-wM) wM
  let r5 := r4.2.int (-wM) wM
  let r6 := r5.2.int (-wM) wM
  let r7 := r6.2.int (-wM) wM
  let r8 := r7.2.int (-wM) wM
  let r9 := r8.2.int (-wM) wM
  (⟨r.1, r0.1, r1.1, r2.1, r3.1, r4.1, r5.1, r6.1, r7.1, r8.1, r9.1⟩, r9.2)

def Cf.zero : Cf := ⟨0, 0, 0, 0, 0, 0, 0, 0, 0, 0, 0⟩
def getE (b : List UInt8) : Int := if (getP b).2.e = 0 ∧ (getP b).2.at_ < b.length then 13 else (getP b).2.e

theorem rint_v (o : Nat) (r : Rd) (low high : Int) (hb : r.b.length ≤ 1099511627776) (ok : r.ok) (h : Heap) (ho : h o = some (RO r)) (K : AV → Heap → Prop) {v : Int} {r' : Rd} (e : r.int low high = (v, r'))
    (hK : K (.d (.int .i64 v)) (h.upd o (RO r'))) : C Try.prog (fun q => q = o) 27 [.d (.ptr o 0), .d (.int .i64 low), .d (.int .i64 high)] h K :=
  rint_c o r low high hb ok h ho K (by rw [e]; exact hK)

theorem get_c (b : List UInt8) (hb : b.length ≤ 1099511627776) (h : Heap) (K : AV → Heap → Prop) (h0 : getE b = 0 → K (.tup [.agg (cfL (getP b).1), .d (.int .i64 0)]) h) (h1 : getE b ≠ 0 → K (.tup [.agg (cfL .zero), .d (.int .i64 (getE b))]) h) :
    C Try.prog (fun _ => False) 24 [.d (BL b)] h K := by
  have hle : ∀ {q o : Nat} {x y : Rv.Obj}, h q = none → h o = none → ∀ p ob, h p = some ob → ((h.upd q x).upd o y) p = some ob := fun hq ho p ob e =>
    (Heap.upd_ne (Heap.ne e ho)).trans ((Heap.upd_ne (Heap.ne e hq)).trans e)
  obtain ⟨v, r, e⟩ : ∃ v r, (Rd.mk b 0 0).int (-wM) wM = (v, r) := ⟨_, _, rfl⟩
  obtain ⟨ok, hbr⟩ := Rd.int_keep e ⟨Nat.zero_le _, .inl rfl⟩
  refine C.of_body lay layf mixed (gl := fun t => Nat.beq t 5) (dr := fun _ => none) _ _ _ Try.func24 rfl rfl rfl rfl rfl rfl ?_
  conv => whnf
  refine CallX.mk _ (fun _ h => h.elim) (rnew_c b hb h _ (fun q hq => ?_))
  conv => whnf
  refine CallX.mk (fun p => p = q) (fun p hp => ⟨.inr (hp ▸ hq), id⟩) (rint_v q _ (-wM) wM hb ⟨Nat.zero_le _, .inl rfl⟩ _ Heap.upd_same _ e ?_)
  rw [Heap.upd_upd]
  conv => whnf
  refine NewK.mk fun o ho => ?_
  conv => whnf
  obtain ⟨hne, ho⟩ := Heap.upd_none ho
  have hqo : q ≠ o := fun e => hne e.symm
  refine ObjK.mk _ (Heap.upd_same) ?_
  conv => whnf
  refine Rq.mk (by exact ⟨rfl, .inr ho, id⟩) ?_
  conv => whnf
  rw [Heap.upd_upd]
  refine CallX.mk _ (fun _ h => h.elim) (numbers_c o _ _ ?_)
  conv => whnf
  refine LoopX.unroll lay layf mixed (gl := fun t => Nat.beq t 5) (dr := fun _ => none) 11 rfl ?_
  conv => whnf
  refine GB.mk (fun _ => ?_) (fun h => absurd h (by decide))
  conv => whnf
  refine Rq.mk (by decide) ?_
  conv => whnf
  refine SubO.mk [.ptr o 1] rfl (by simp [nums]) ?_
  conv => whnf
  obtain ⟨v0, r0, e0⟩ : ∃ v r', r.int (-wM) wM = (v, r') := ⟨_, _, rfl⟩
  obtain ⟨ok0, hbr0⟩ := Rd.int_keep e0 ok
  refine CallX.mk (fun p => p = q) (fun p hp => ⟨.inr (hp ▸ hq), id⟩) (rint_v q _ (-wM) wM (by simp only [hbr]; exact hb) ok _ ((Heap.upd_ne hqo).trans Heap.upd_same) _ e0 ?_)
  rw [Heap.upd_comm hqo, Heap.upd_upd]
  conv => whnf
  refine ObjK.mk _ (Heap.upd_same) ?_
  conv => whnf
  refine Rq.mk (by exact ⟨rfl, .inr ho, id⟩) ?_
  conv => whnf
  rw [Heap.upd_upd]
  refine Wr.i64 (y := 1) (by decide) (by decide) (by decide) ?_
  conv => whnf
  refine GB.mk (fun _ => ?_) (fun h => absurd h (by decide))
  conv => whnf
  refine Rq.mk (by decide) ?_
  conv => whnf
  refine SubO.mk [.ptr o 2] rfl (by simp [nums]) ?_
  conv => whnf
  obtain ⟨v1, r1, e1⟩ : ∃ v r', r0.int (-wM) wM = (v, r') := ⟨_, _, rfl⟩
  obtain ⟨ok1, hbr1⟩ := Rd.int_keep e1 ok0
  refine CallX.mk (fun p => p = q) (fun p hp => ⟨.inr (hp ▸ hq), id⟩) (rint_v q _ (-wM) wM (by simp only [hbr0, hbr]; exact hb) ok0 _ ((Heap.upd_ne hqo).trans Heap.upd_same) _ e1 ?_)
  rw [Heap.upd_comm hqo, Heap.upd_upd]
  conv => whnf
  refine ObjK.mk _ (Heap.upd_same) ?_
  conv => whnf
  refine Rq.mk (by exact ⟨rfl, .inr ho, id⟩) ?_
  conv => whnf
  rw [Heap.upd_upd]
  refine Wr.i64 (y := 2) (by decide) (by decide) (by decide) ?_
  conv => whnf
  refine GB.mk (fun _ => ?_) (fun h => absurd h (by decide))
  conv => whnf
  refine Rq.mk (by decide) ?_
  conv => whnf
  refine SubO.mk [.ptr o 3] rfl (by simp [nums]) ?_
  conv => whnf
  obtain ⟨v2, r2, e2⟩ : ∃ v r', r1.int (-wM) wM = (v, r') := ⟨_, _, rfl⟩
  obtain ⟨ok2, hbr2⟩ := Rd.int_keep e2 ok1
  refine CallX.mk (fun p => p = q) (fun p hp => ⟨.inr (hp ▸ hq), id⟩) (rint_v q _ (-wM) wM (by simp only [hbr1, hbr0, hbr]; exact hb) ok1 _ ((Heap.upd_ne hqo).trans Heap.upd_same) _ e2 ?_)
  rw [Heap.upd_comm hqo, Heap.upd_upd]
  conv => whnf
  refine ObjK.mk _ (Heap.upd_same) ?_
  conv => whnf
  refine Rq.mk (by exact ⟨rfl, .inr ho, id⟩) ?_
  conv => whnf
  rw [Heap.upd_upd]
  refine Wr.i64 (y := 3) (by decide) (by decide) (by decide) ?_
  conv => whnf
  refine GB.mk (fun _ => ?_) (fun h => absurd h (by decide))
  conv => whnf
  refine Rq.mk (by decide) ?_
  conv => whnf
  refine SubO.mk [.ptr o 4] rfl (by simp [nums]) ?_
  conv => whnf
  obtain ⟨v3, r3, e3⟩ : ∃ v r', r2.int (-wM) wM = (v, r') := ⟨_, _, rfl⟩
  obtain ⟨ok3, hbr3⟩ := Rd.int_keep e3 ok2
  refine CallX.mk (fun p => p = q) (fun p hp => ⟨.inr (hp ▸ hq), id⟩) (rint_v q _ (-wM) wM (by simp only [hbr2, hbr1, hbr0, hbr]; exact hb) ok2 _ ((Heap.upd_ne hqo).trans Heap.upd_same) _ e3 ?_)
  rw [Heap.upd_comm hqo, Heap.upd_upd]
  conv => whnf
  refine ObjK.mk _ (Heap.upd_same) ?_
  conv => whnf
  refine Rq.mk (by exact ⟨rfl, .inr ho, id⟩) ?_
  conv => whnf
  rw [Heap.upd_upd]
  refine Wr.i64 (y := 4) (by decide) (by decide) (by decide) ?_
  conv => whnf
  refine GB.mk (fun _ => ?_) (fun h => absurd h (by decide))
  conv => whnf
  refine Rq.mk (by decide) ?_
  conv => whnf
  refine SubO.mk [.ptr o 5] rfl (by simp [nums]) ?_
  conv => whnf
  obtain ⟨v4, r4, e4⟩ : ∃ v r', r3.int (-wM) wM = (v, r') := ⟨_, _, rfl⟩
  obtain ⟨ok4, hbr4⟩ := Rd.int_keep e4 ok3
  refine CallX.mk (fun p => p = q) (fun p hp => ⟨.inr (hp ▸ hq), id⟩) (rint_v q _ (-wM) wM (by simp only [hbr3, hbr2, hbr1, hbr0, hbr]; exact hb) ok3 _ ((Heap.upd_ne hqo).trans Heap.upd_same) _ e4 ?_)
  rw [Heap.upd_comm hqo, Heap.upd_upd]
  conv => whnf
  refine ObjK.mk _ (Heap.upd_same) ?_
  conv => whnf
  refine Rq.mk (by exact ⟨rfl, .inr ho, id⟩) ?_
  conv => whnf
  rw [Heap.upd_upd]
  refine Wr.i64 (y := 5) (by decide) (by decide) (by decide) ?_
  conv => whnf
  refine GB.mk (fun _ => ?_) (fun h => absurd h (by decide))
  conv => whnf
  refine Rq.mk (by decide) ?_
  conv => whnf
  refine SubO.mk [.ptr o 6] rfl (by simp [nums]) ?_
  conv => whnf
  obtain ⟨v5, r5, e5⟩ : ∃ v r', r4.int (-wM) wM = (v, r') := ⟨_, _, rfl⟩
  obtain ⟨ok5, hbr5⟩ := Rd.int_keep e5 ok4
  refine CallX.mk (fun p => p = q) (fun p hp => ⟨.inr (hp ▸ hq), id⟩) (rint_v q _ (-wM) wM (by simp only [hbr4, hbr3, hbr2, hbr1, hbr0, hbr]; exact hb) ok4 _ ((Heap.upd_ne hqo).trans Heap.upd_same) _ e5 ?_)
  rw [Heap.upd_comm hqo, Heap.upd_upd]
  conv => whnf
  refine ObjK.mk _ (Heap.upd_same) ?_
  conv => whnf
  refine Rq.mk (by exact ⟨rfl, .inr ho, id⟩) ?_
  conv => whnf
  rw [Heap.upd_upd]
  refine Wr.i64 (y := 6) (by decide) (by decide) (by decide) ?_
  conv => whnf
  refine GB.mk (fun _ => ?_) (fun h => absurd h (by decide))
  conv => whnf
  refine Rq.mk (by decide) ?_
  conv => whnf
  refine SubO.mk [.ptr o 7] rfl (by simp [nums]) ?_
  conv => whnf
  obtain ⟨v6, r6, e6⟩ : ∃ v r', r5.int (-wM) wM = (v, r') := ⟨_, _, rfl⟩
  obtain ⟨ok6, hbr6⟩ := Rd.int_keep e6 ok5
  refine CallX.mk (fun p => p = q) (fun p hp => ⟨.inr (hp ▸ hq), id⟩) (rint_v q _ (-wM) wM (by simp only [hbr5, hbr4, hbr3, hbr2, hbr1, hbr0, hbr]; exact hb) ok5 _ ((Heap.upd_ne hqo).trans Heap.upd_same) _ e6 ?_)
  rw [Heap.upd_comm hqo, Heap.upd_upd]
  conv => whnf
  refine ObjK.mk _ (Heap.upd_same) ?_
  conv => whnf
  refine Rq.mk (by exact ⟨rfl, .inr ho, id⟩) ?_
  conv => whnf
  rw [Heap.upd_upd]
  refine Wr.i64 (y := 7) (by decide) (by decide) (by decide) ?_
  conv => whnf
  refine GB.mk (fun _ => ?_) (fun h => absurd h (by decide))
  conv => whnf
  refine Rq.mk (by decide) ?_
  conv => whnf
  refine SubO.mk [.ptr o 8] rfl (by simp [nums]) ?_
  conv => whnf
  obtain ⟨v7, r7, e7⟩ : ∃ v r', r6.int (-wM) wM = (v, r') := ⟨_, _, rfl⟩
  obtain ⟨ok7, hbr7⟩ := Rd.int_keep e7 ok6
  refine CallX.mk (fun p => p = q) (fun p hp => ⟨.inr (hp ▸ hq), id⟩) (rint_v q _ (-wM) wM (by simp only [hbr6, hbr5, hbr4, hbr3, hbr2, hbr1, hbr0, hbr]; exact hb) ok6 _ ((Heap.upd_ne hqo).trans Heap.upd_same) _ e7 ?_)
  rw [Heap.upd_comm hqo, Heap.upd_upd]
  conv => whnf
  refine ObjK.mk _ (Heap.upd_same) ?_
  conv => whnf
  refine Rq.mk (by exact ⟨rfl, .inr ho, id⟩) ?_
  conv => whnf
  rw [Heap.upd_upd]
  refine Wr.i64 (y := 8) (by decide) (by decide) (by decide) ?_
  conv => whnf
  refine GB.mk (fun _ => ?_) (fun h => absurd h (by decide))
  conv => whnf
  refine Rq.mk (by decide) ?_
  conv => whnf
  refine SubO.mk [.ptr o 9] rfl (by simp [nums]) ?_
  conv => whnf
  obtain ⟨v8, r8, e8⟩ : ∃ v r', r7.int (-wM) wM = (v, r') := ⟨_, _, rfl⟩
  obtain ⟨ok8, hbr8⟩ := Rd.int_keep e8 ok7
  refine CallX.mk (fun p => p = q) (fun p hp => ⟨.inr (hp ▸ hq), id⟩) (rint_v q _ (-wM) wM (by simp only [hbr7, hbr6, hbr5, hbr4, hbr3, hbr2, hbr1, hbr0, hbr]; exact hb) ok7 _ ((Heap.upd_ne hqo).trans Heap.upd_same) _ e8 ?_)
  rw [Heap.upd_comm hqo, Heap.upd_upd]
  conv => whnf
  refine ObjK.mk _ (Heap.upd_same) ?_
  conv => whnf
  refine Rq.mk (by exact ⟨rfl, .inr ho, id⟩) ?_
  conv => whnf
  rw [Heap.upd_upd]
  refine Wr.i64 (y := 9) (by decide) (by decide) (by decide) ?_
  conv => whnf
  refine GB.mk (fun _ => ?_) (fun h => absurd h (by decide))
  conv => whnf
  refine Rq.mk (by decide) ?_
  conv => whnf
  refine SubO.mk [.ptr o 10] rfl (by simp [nums]) ?_
  conv => whnf
  obtain ⟨v9, r9, e9⟩ : ∃ v r', r8.int (-wM) wM = (v, r') := ⟨_, _, rfl⟩
  obtain ⟨ok9, hbr9⟩ := Rd.int_keep e9 ok8
  refine CallX.mk (fun p => p = q) (fun p hp => ⟨.inr (hp ▸ hq), id⟩) (rint_v q _ (-wM) wM (by simp only [hbr8, hbr7, hbr6, hbr5, hbr4, hbr3, hbr2, hbr1, hbr0, hbr]; exact hb) ok8 _ ((Heap.upd_ne hqo).trans Heap.upd_same) _ e9 ?_)
  rw [Heap.upd_comm hqo, Heap.upd_upd]
  conv => whnf
  refine ObjK.mk _ (Heap.upd_same) ?_
  conv => whnf
  refine Rq.mk (by exact ⟨rfl, .inr ho, id⟩) ?_
  conv => whnf
  rw [Heap.upd_upd]
  refine Wr.i64 (y := 10) (by decide) (by decide) (by decide) ?_
  conv => whnf
  refine GB.mk (fun h => absurd h (by decide)) (fun _ => ?_)
  conv => whnf
  have hg : getP b = (⟨v, v0, v1, v2, v3, v4, v5, v6, v7, v8, v9⟩, r9) := by simp only [getP, e, e0, e1, e2, e3, e4, e5, e6, e7, e8, e9]
  have hb9 : r9.b = b := by simp only [hbr9, hbr8, hbr7, hbr6, hbr5, hbr4, hbr3, hbr2, hbr1, hbr0, hbr]
  have hat := ok9.1
  simp only [getE, hg] at h0 h1
  have hz : ∀ p ob, h p = some ob → ((h.upd q (RO r9)).upd o ⟨[.int .i64 v, .int .i64 v0, .int .i64 v1, .int .i64 v2, .int .i64 v3, .int .i64 v4, .int .i64 v5, .int .i64 v6, .int .i64 v7, .int .i64 v8, .int .i64 v9], 26, 11, false, false⟩) p = some ob := hle hq ho
  refine CallX.mk _ (fun _ h => h.elim) (rerr_c q r9 _ ((Heap.upd_ne hqo).trans Heap.upd_same) _ ?_)
  conv => whnf
  refine GB.mk (fun he => ?_) (fun he => ?_)
  · simp only [decide_eq_true_eq] at he
    conv => whnf
    refine CallX.mk _ (fun _ h => h.elim) (rleft_c q r9 (by rw [hb9]; exact hb) ok9 _ ((Heap.upd_ne hqo).trans Heap.upd_same) _ ?_)
    conv => whnf
    rw [hb9] at hat ⊢
    refine GB.mk (fun hl => ?_) (fun hl => ?_)
    · simp only [decide_eq_true_eq] at hl
      conv => whnf
      refine GB.mk (fun _ => ?_) (fun h => absurd h (by simp))
      conv => whnf
      have e13 : (if r9.e = 0 ∧ r9.at_ < b.length then (13 : Int) else r9.e) = 13 := if_pos ⟨he, by omega⟩
      rw [e13] at h1
      refine Rq.mk (by exact id) ?_
      conv => whnf
      exact Rv.Fin.mk h hz (h1 (by decide))
    · simp only [decide_eq_false_iff_not] at hl
      have e0' : (if r9.e = 0 ∧ r9.at_ < b.length then (13 : Int) else r9.e) = 0 := by rw [if_neg (by omega), he]
      rw [e0'] at h0
      conv => whnf
      refine GB.mk (fun hc => absurd he (by simpa using hc)) (fun _ => ?_)
      conv => whnf
      refine ObjK.mk _ (Heap.upd_same) ?_
      conv => whnf
      refine Rq.mk (by exact id) ?_
      conv => whnf
      exact Rv.Fin.mk h hz (h0 rfl)
  · simp only [decide_eq_false_iff_not] at he
    have e0' : (if r9.e = 0 ∧ r9.at_ < b.length then (13 : Int) else r9.e) = r9.e := by rw [if_neg (fun e => he e.1)]
    rw [e0'] at h1
    conv => whnf
    refine GB.mk (fun _ => ?_) (fun hc => absurd (by simpa using hc) he)
    conv => whnf
    refine Rq.mk (by exact id) ?_
    conv => whnf
    exact Rv.Fin.mk h hz (h1 he)
end Go.Proofs.Ytjnhijpophmmgaa
