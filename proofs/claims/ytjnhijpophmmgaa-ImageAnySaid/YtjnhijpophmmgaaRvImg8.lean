/- RvImg8: what functions of the program that the law reaches compute, each stated as a contract, for the law ImageAny. -/
import Derived.Test.YtjnhijpophmmgaaRvImg7
set_option linter.unusedVariables false
set_option linter.unusedSimpArgs false
namespace Go.Proofs.Ytjnhijpophmmgaa
open Go Go.Proofs.Rv
set_option maxRecDepth 20000

theorem ilay_c {h : Heap} {L : BusL} {b : BusA} (hb : BusAt h L b) {c : Cf} (hc : Good c) {ms : List (List ZA)} {ac : Nat} (hac : c.mt + c.zo + c.sp = ac) (hml : (ms.length : Int) = c.me) (hz : ∀ zs ∈ ms, zs = [] ∨ (zs.length = ac ∧ ∀ z ∈ zs, z.good c.ca c.bl))
    (hf : Fill ms ac (fun _ _ z => S0 c z) b) (K : AV → Heap → Prop) (hK : ∀ b', BusAt (h.over (busH L b')) L b' → Holds c ms b' → K (.d (.int .i64 0)) (h.over (busH L b')))
    (hE : ∀ (e : Int) b', e ≠ 0 → b'.devs.length = ms.length → K (.d (.int .i64 e)) (h.over (busH L b'))) :
    C Try.prog (fun q => q ∈ L.all) 12 [.d (.ptr L.o 0), .agg (cfL c), .d (.lst ms.length (msL ms))] h K := by
  have hc64 := hc.all
  have hme := hc.me
  have hac1 : 0 < ac := by have := hc.mt; have := hc.zo; have := hc.sp; omega
  have hm16 : ms.length ≤ 16 := by omega
  have hz64 : ∀ zs ∈ ms, zs.length ≤ 64 := fun zs hzs => by
    rcases hz zs hzs with h | h
    · rw [h]; decide
    · omega
  refine C.of_body lay layf mixed (gl := fun t => Nat.beq t 3 || Nat.beq t 4 || Nat.beq t 7) (dr := fun _ => none) _ _ _ Try.func12 rfl rfl rfl rfl rfl rfl ?_
  conv => whnf
  refine NewK.mk fun t3 ht3 => ?_
  conv => whnf
  refine NewK.mk fun t4 ht4 => ?_
  conv => whnf
  refine NewK.mk fun t7 ht7 => ?_
  conv => whnf
  refine ObjK.mk _ (Heap.upd_same) ?_
  conv => whnf
  refine Rq.mk ⟨rfl, .inr (Heap.upd_none (Heap.upd_none ht7).2).2, by first | exact id | exact notMem rfl | exact fun hm => absurd rfl (List.mem_singleton.1 hm)⟩ ?_
  conv => whnf
  rw [Heap.upd_upd]
  obtain ⟨n74, n7'⟩ := Heap.upd_none ht7
  obtain ⟨n73, n7⟩ := Heap.upd_none n7'
  obtain ⟨n43, n4⟩ := Heap.upd_none ht4
  have out : ∀ q, h q = none → ∀ b' : BusA, b'.devs.length = ms.length → busH L b' q = none := fun q hq b' hl => by
    cases e : busH L b' q with
    | none => rfl
    | some y => obtain ⟨z, hz⟩ := busH_dom (b := b') (b' := b) (by rw [hl, hf.n]) q y e; rw [hb.has q z hz] at hq; cases hq
  have hB : BusAt (((h.upd t3 ⟨[.ptr L.o 0], 24, 1, false, false⟩).upd t4 (CO c)).upd t7 ⟨[.fn 33 [.ptr t3 0]], 76, 1, false, false⟩) L b := ((hb.keep ht3).keep ht4).keep ht7
  have Bx : Box (((h.upd t3 ⟨[.ptr L.o 0], 24, 1, false, false⟩).upd t4 (CO c)).upd t7 ⟨[.fn 33 [.ptr t3 0]], 76, 1, false, false⟩) L c ms.length t3 t4 t7 :=
    ⟨(Heap.upd_ne (fun e => n73 e.symm)).trans ((Heap.upd_ne (fun e => n43 e.symm)).trans Heap.upd_same), (Heap.upd_ne (fun e => n74 e.symm)).trans Heap.upd_same, Heap.upd_same, fun b' hl => ⟨out t3 ht3 b' hl, out t4 n4 b' hl, out t7 n7 b' hl⟩⟩
  have fin : ∀ b' : BusA, b'.devs.length = ms.length → ∀ q x, (h.over (busH L b')) q = some x → ((((h.upd t3 ⟨[.ptr L.o 0], 24, 1, false, false⟩).upd t4 (CO c)).upd t7 ⟨[.fn 33 [.ptr t3 0]], 76, 1, false, false⟩).over (busH L b')) q = some x := fun b' hl q x hx => by
    unfold Heap.over at hx ⊢
    cases e : busH L b' q with
    | some y => rw [e] at hx; exact hx
    | none =>
      rw [e] at hx
      exact Heap.keep ht7 (Heap.keep ht4 (Heap.keep ht3 hx))
  have hH : (((h.upd t3 ⟨[.ptr L.o 0], 24, 1, false, false⟩).upd t4 ⟨cfL c, 26, 11, false, false⟩).upd t7 ⟨[.fn 33 [.ptr t3 0]], 76, 1, false, false⟩) = ((h.upd t3 ⟨[.ptr L.o 0], 24, 1, false, false⟩).upd t4 (CO c)).upd t7 ⟨[.fn 33 [.ptr t3 0]], 76, 1, false, false⟩ := rfl
  rw [hH]
  clear hH
  generalize ((h.upd t3 ⟨[.ptr L.o 0], 24, 1, false, false⟩).upd t4 (CO c)).upd t7 ⟨[.fn 33 [.ptr t3 0]], 76, 1, false, false⟩ = H at *
  have g0 : GH H L ms ac (fun _ _ z => S0 c z) H := ⟨b, hB.self.symm, hB, hf⟩
  refine CallX.mk (fun q => q ∈ L.all) (fun q hq => ⟨.inl hq, id⟩) (ieach_c H ms 35 t7 t3 (fun i j h => GH H L ms ac (pos (S0 c) (S1 c) i j) h) (EH H L ms.length) g0.first (fun i zs h hi g => g.next hi)
    (fun i zs j z h' hi hj g K hk he => lay2_c Bx hc hi hj (((hz zs (List.mem_of_getElem? hi)).resolve_left (by rintro rfl; simp at hj)).2 z (List.mem_of_getElem? hj)) g K hk he) hm16 hz64 _ (fun h1 g1 => ?_) (fun e h1 hne e1 => ?_))
  · replace g1 := g1.last
    conv => whnf
    refine GB.mk (fun h => absurd h (by simp)) (fun _ => ?_)
    conv => whnf
    refine CallX.mk (fun q => q ∈ L.all) (fun q hq => ⟨.inl hq, id⟩) (ieach_c h1 ms 37 t7 t4 (fun i j h => GH H L ms ac (pos (S1 c) (S2 c) i j) h) (EH H L ms.length) g1.first (fun i zs h hi g => g.next hi)
      (fun i zs j z h' hi hj g K hk he => lay3_c Bx hc hi hj (((hz zs (List.mem_of_getElem? hi)).resolve_left (by rintro rfl; simp at hj)).2 z (List.mem_of_getElem? hj)) g K hk he) hm16 hz64 _ (fun h2 g2 => ?_) (fun e h1 hne e1 => ?_))
    · replace g2 := g2.last
      conv => whnf
      refine GB.mk (fun h => absurd h (by simp)) (fun _ => ?_)
      conv => whnf
      obtain ⟨b2, rfl, hb2, hf2⟩ := g2
      conv => whnf
      refine LoopX.mk lay layf mixed (gl := fun t => Nat.beq t 3 || Nat.beq t 4 || Nat.beq t 7) (dr := fun _ => none) (α := {s : Nat × BusA // s.1 ≤ ms.length ∧ BusAt (H.over (busH L s.2)) L s.2 ∧ Fill ms ac (fun k _ z => if k < s.1 then S3 c z else S2 c z) s.2})
        (fun s => ⟨[.undef, .undef, .d (.lst ms.length (msL ms)), .d (.ptr t3 0), .d (.ptr t4 0), .undef, .undef, .d (.ptr t7 0), .undef, .undef, .d (.fn 39 [.ptr t7 0, .ptr t4 0]), .undef, .undef, .undef, .undef, .undef, .undef, .undef, .undef, .undef, .undef, .undef, .undef, .undef, .undef, .undef, .undef, .undef, .undef, .undef, .undef, .undef, .undef, .undef, .undef, .d (.int .i64 ms.length), .d (.int .i64 s.1.1), .undef, .undef, .undef, .undef, .undef, .undef, .undef, .undef, .undef, .undef, .undef, .undef, .undef, .undef, .undef, .undef, .undef, .undef, .undef, .undef, .undef, .undef, .undef, .undef, .undef, .undef, .undef, .undef, .undef], [], H.over (busH L s.1.2)⟩)
        (fun s => ms.length - s.1.1) ⟨(0, b2), Nat.zero_le _, hb2, hf2.congr fun k _ _ z _ _ => by simp⟩ (Le.of (by simp [leT]) (fun _ _ h => h) (fun _ _ h => h)) rfl ?_
      rintro ⟨⟨i, b3⟩, ⟨hi, hb3, hf3⟩⟩
      dsimp only at hi hb3 hf3 ⊢
      obtain ⟨o3, o4, o7⟩ := Bx.o b3 hf3.n
      conv => whnf
      refine GB.mk (fun hcc => ?_) (fun hcc => ?_)
      · simp only [decide_eq_true_eq] at hcc
        have hil : i < ms.length := by omega
        obtain ⟨u1, u2⟩ := hf3.flush hac1 hil (f' := fun k _ z => if k < i + 1 then S3 c z else S2 c z) (fun j z => by rw [if_pos (by omega), if_neg (by omega)]; rfl) (fun k j z hk => by
          have : (k < i + 1) ↔ k < i := by omega
          simp only [this])
        have hl3 := BusA.do_len hb3.ok i DevA.flush
        have hb4 := hb3.over u2.ok hl3
        rw [over_bus (by exact hl3.symm)] at hb4
        conv => whnf
        refine ObjK.mk _ ((over_out o3).trans Bx.x3) ?_
        conv => whnf
        refine CallX.mk (fun q => q ∈ L.all) (fun q hq => ⟨.inl hq, id⟩) (bflush_c hb3 i _ ?_)
        rw [over_bus (by exact hl3.symm), u1]
        conv => whnf
        refine GB.mk (fun h => absurd h (by simp)) (fun _ => ?_)
        conv => whnf
        refine Wr.i64 (y := ((i + 1 : Nat) : Int)) (by omega) (by omega) (by omega) ?_
        conv => whnf
        refine ⟨⟨(i + 1, _), by omega, hb4, u2⟩, by simp; omega, Le.of (by simp [leT]) (fun _ _ h => h) (fun _ _ h => h)⟩
      · simp only [decide_eq_false_iff_not] at hcc
        have hii : i = ms.length := by omega
        subst hii
        conv => whnf
        refine ⟨_, Le.refl _, ?_⟩
        conv => whnf
        have g3 : GH H L ms ac (fun _ _ z => S3 c z) (H.over (busH L b3)) := ⟨b3, rfl, hb3, hf3.congr fun k _ _ z hk _ => by rw [if_pos (List.getElem?_eq_some_iff.1 hk).1]⟩
        refine CallX.mk (fun q => q ∈ L.all) (fun q hq => ⟨.inl hq, id⟩) (ieach_c _ ms 39 t7 t4 (fun i j h => GH H L ms ac (pos (S3 c) (S4 c) i j) h) (EH H L ms.length) g3.first (fun i zs h hi g => g.next hi)
          (fun i zs j z h' hi hj g K hk he => lay4_c Bx hc hi hj (((hz zs (List.mem_of_getElem? hi)).resolve_left (by rintro rfl; simp at hj)).2 z (List.mem_of_getElem? hj)) g K hk he) hm16 hz64 _ (fun h4 g4 => ?_) (fun e h1 hne e1 => ?_))
        · replace g4 := g4.last
          conv => whnf
          refine GB.mk (fun h => absurd h (by simp)) (fun _ => ?_)
          conv => whnf
          obtain ⟨b4, rfl, hb4, hf4⟩ := g4
          conv => whnf
          refine LoopX.mk lay layf mixed (gl := fun t => Nat.beq t 3 || Nat.beq t 4 || Nat.beq t 7) (dr := fun _ => none) (α := {s : Nat × BusA // s.1 ≤ ms.length ∧ BusAt (H.over (busH L s.2)) L s.2 ∧ Kil c ms ac s.1 s.2})
            (fun s => ⟨[.undef, .undef, .undef, .d (.ptr t3 0), .d (.ptr t4 0), .undef, .undef, .d (.ptr t7 0), .undef, .undef, .undef, .undef, .undef, .undef, .undef, .undef, .undef, .undef, .undef, .undef, .undef, .undef, .undef, .undef, .undef, .undef, .undef, .undef, .undef, .undef, .undef, .undef, .undef, .undef, .undef, .undef, .undef, .undef, .undef, .undef, .undef, .undef, .undef, .undef, .undef, .undef, .undef, .undef, .undef, .undef, .undef, .undef, .d (.lst ms.length (msL ms)), .d (.int .i64 ms.length), .d (.int .i64 s.1.1), .undef, .undef, .undef, .undef, .undef, .undef, .undef, .undef, .undef, .undef, .undef], [], H.over (busH L s.1.2)⟩)
            (fun s => ms.length - s.1.1) ⟨(0, b4), Nat.zero_le _, hb4, Kil.first hf4⟩ (Le.of (by simp [leT]) (fun _ _ h => h) (fun _ _ h => h)) rfl ?_
          rintro ⟨⟨i, b5⟩, ⟨hi5, hb5, hk5⟩⟩
          dsimp only at hi5 hb5 hk5 ⊢
          obtain ⟨o3, o4, o7⟩ := Bx.o b5 hk5.n
          conv => whnf
          refine GB.mk (fun hcc => ?_) (fun hcc => ?_)
          · simp only [decide_eq_true_eq] at hcc
            have hil : i < ms.length := by omega
            obtain ⟨zs, hzs⟩ : ∃ zs, ms[i]? = some zs := ⟨_, List.getElem?_eq_getElem hil⟩
            conv => whnf
            refine Rq.mk (by omega) ?_
            conv => whnf
            refine SubO.mk [mL zs] (by simpa [msL] using get_one mL ms i zs hzs) (by simp [msL]; omega) ?_
            conv => whnf
            refine Rq.mk (by first | exact id | exact notMem rfl) ?_
            conv => whnf
            rcases (show zs = [] ∨ ∃ z zs', zs = z :: zs' from by cases zs <;> simp) with rfl | ⟨z, zs', rfl⟩
            · obtain ⟨u1, u2⟩ := hk5.kill hzs
              have hb6 := hb5.over u1.ok u2
              rw [over_bus u2.symm] at hb6
              conv => whnf
              refine ObjK.mk _ ((over_out o3).trans Bx.x3) ?_
              conv => whnf
              refine CallX.mk (fun q => q ∈ L.all) (fun q hq => ⟨.inl hq, id⟩) (bkill_c hb5 i 0 _ ?_)
              rw [over_bus u2.symm]
              conv => whnf
              refine Wr.i64 (y := ((i + 1 : Nat) : Int)) (by omega) (by omega) (by omega) ?_
              conv => whnf
              refine ⟨⟨(i + 1, _), by omega, hb6, u1⟩, by simp; omega, Le.of (by simp [leT]) (lkL_app [] _) (fun _ _ h => h)⟩
            · conv => whnf
              refine NilX.mk (fun h0 => by omega) ?_
              conv => whnf
              refine Wr.i64 (y := ((i + 1 : Nat) : Int)) (by omega) (by omega) (by omega) ?_
              conv => whnf
              refine ⟨⟨(i + 1, b5), by omega, hb5, hk5.keep hzs (by simp)⟩, by simp; omega, Le.of (by simp [leT]) (lkL_app [] _) (fun _ _ h => h)⟩
          · simp only [decide_eq_false_iff_not] at hcc
            have hii : i = ms.length := by omega
            subst hii
            conv => whnf
            refine ⟨_, Le.refl _, ?_⟩
            conv => whnf
            have hh := Kil.last hc hz hk5
            exact Rv.Fin.mk _ (fin b5 hk5.n) (hK b5 (hb.over hk5.ok (by rw [hk5.n, hf.n])) hh)
        · obtain ⟨b', rfl, _, hl⟩ := e1
          conv => whnf
          refine GB.mk (fun _ => ?_) (fun h => absurd h (by simpa using hne))
          conv => whnf
          exact Rv.Fin.mk _ (fin b' hl) (hE e b' hne hl)
    · obtain ⟨b', rfl, _, hl⟩ := e1
      conv => whnf
      refine GB.mk (fun _ => ?_) (fun h => absurd h (by simpa using hne))
      conv => whnf
      exact Rv.Fin.mk _ (fin b' hl) (hE e b' hne hl)
  · obtain ⟨b', rfl, _, hl⟩ := e1
    conv => whnf
    refine GB.mk (fun _ => ?_) (fun h => absurd h (by simpa using hne))
    conv => whnf
    exact Rv.Fin.mk _ (fin b' hl) (hE e b' hne hl)
end Go.Proofs.Ytjnhijpophmmgaa
