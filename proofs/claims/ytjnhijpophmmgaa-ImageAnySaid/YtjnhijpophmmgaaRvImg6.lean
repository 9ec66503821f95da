/- RvImg6: what functions of the program that the law reaches compute, each stated as a contract, for the law ImageAny. -/
import Derived.Test.YtjnhijpophmmgaaRvImg5
set_option linter.unusedVariables false
set_option linter.unusedSimpArgs false
namespace Go.Proofs.Ytjnhijpophmmgaa
open Go Go.Proofs.Rv
set_option maxRecDepth 20000

def pos (S S' : ZA → Zn) (i j : Nat) : Nat → Nat → ZA → Zn := fun k l z => if k < i ∨ (k = i ∧ l < j) then S' z else S z
theorem pos_at (S S' : ZA → Zn) (i j : Nat) (z : ZA) : pos S S' i j i j z = S z := by simp [pos]
theorem pos_next (S S' : ZA → Zn) (i j : Nat) (z : ZA) : pos S S' i (j + 1) i j z = S' z := by simp [pos]
theorem pos_else (S S' : ZA → Zn) {i j k l : Nat} (z : ZA) (h : k ≠ i ∨ l ≠ j) : pos S S' i (j + 1) k l z = pos S S' i j k l z := by
  unfold pos
  have : (k < i ∨ (k = i ∧ l < j + 1)) ↔ (k < i ∨ (k = i ∧ l < j)) := by omega
  simp only [this]

def partA (x : List UInt8) (i j k : Int) : List UInt8 := (x.drop (i * k).toNat).take ((j - i) * k).toNat
def S0 (c : Cf) (_ : ZA) : Zn := .new c.ca c.bl
def S1 (c : Cf) (z : ZA) : Zn := if z.done = true then ({ S0 c z with data := (S0 c z).data ++ z.text } : Zn).finish else S0 c z
def S2 (c : Cf) (z : ZA) : Zn := if z.done = true then S1 c z else { S1 c z with data := (S1 c z).data ++ partA z.text 0 z.safe c.bl }
def S3 (c : Cf) (z : ZA) : Zn := (S2 c z).flush
def S4 (c : Cf) (z : ZA) : Zn := if z.done = true then S3 c z else { S3 c z with data := (S3 c z).data ++ partA z.text z.safe z.wp c.bl }

structure Box (H : Heap) (L : BusL) (c : Cf) (n : Nat) (t3 t4 t7 : Nat) : Prop where
  x3 : H t3 = some ⟨[.ptr L.o 0], 24, 1, false, false⟩
  x4 : H t4 = some (CO c)
  x7 : H t7 = some ⟨[.fn 33 [.ptr t3 0]], 76, 1, false, false⟩
  o : ∀ b : BusA, b.devs.length = n → busH L b t3 = none ∧ busH L b t4 = none ∧ busH L b t7 = none

theorem over_out {h X : Heap} {q : Nat} (e : X q = none) : (h.over X) q = h q := by unfold Heap.over; rw [e]

def GH (H : Heap) (L : BusL) (ms : List (List ZA)) (ac : Nat) (f : Nat → Nat → ZA → Zn) (h : Heap) : Prop := ∃ b, h = H.over (busH L b) ∧ BusAt h L b ∧ Fill ms ac f b
def EH (H : Heap) (L : BusL) (n : Nat) (h : Heap) : Prop := ∃ b, h = H.over (busH L b) ∧ BusAt h L b ∧ b.devs.length = n

theorem GH.out {H : Heap} {L : BusL} {ms : List (List ZA)} {ac : Nat} {f : Nat → Nat → ZA → Zn} {h : Heap} (g : GH H L ms ac f h) : EH H L ms.length h := by
  obtain ⟨b, h1, h2, h3⟩ := g; exact ⟨b, h1, h2, h3.n⟩

theorem putA_ok {b : BusA} (hb : b.ok) (i j : Int) (x : List UInt8) : (putA b i j x).1.ok ∧ (putA b i j x).1.devs.length = b.devs.length := by
  unfold putA; split
  · exact ⟨hb, rfl⟩
  · exact ⟨BusA.do_ok hb i _ fun d hd => DevA.app_fit hd j x, BusA.do_len hb i _⟩

theorem BusAt.mem {h : Heap} {L : BusL} {b : BusA} (hb : BusAt h L b) {q : Nat} (hq : q ∈ L.all) : busH L b q ≠ none := by
  intro e
  simp only [BusL.all, List.mem_cons] at hq
  unfold busH at e
  split at e
  · cases e
  · rename_i n1
    split at e
    · cases e
    · rename_i n2
      split at e
      · cases e
      · rename_i n3
        split at e
        · cases e
        · rename_i n4
          have hm : q ∈ flatI L.ids := by
            rcases hq with h | h | h | h | h
            · exact absurd h n1
            · exact absurd h n2
            · exact absurd h n3
            · exact absurd h n4
            · exact h
          obtain ⟨k, p, hk, hp⟩ := flatI_get hm
          have hkl := (List.getElem?_eq_some_iff.1 hk).1
          have hkd : k < b.devs.length := by rw [← hb.len]; exact hkl
          obtain ⟨g1, g2⟩ := devsH_get hb.ndi hk (List.getElem?_eq_getElem hkd)
          rcases hp with h | h
          · rw [h, g1] at e; cases e
          · rw [h, g2] at e; cases e

variable {H : Heap} {L : BusL} {c : Cf} {ms : List (List ZA)} {ac : Nat} {t3 t4 t7 : Nat}

theorem lay2_c (Bx : Box H L c ms.length t3 t4 t7) (hc : Good c) {i : Nat} {zs : List ZA} {j : Nat} {z : ZA} {h' : Heap} (hi : ms[i]? = some zs) (hj : zs[j]? = some z) (hz : z.good c.ca c.bl) (hg : GH H L ms ac (pos (S0 c) (S1 c) i j) h')
    (K : AV → Heap → Prop) (hk : ∀ h2, GH H L ms ac (pos (S0 c) (S1 c) i (j + 1)) h2 → K (.d (.int .i64 0)) h2) (he : ∀ (e : Int) h2, e ≠ 0 → EH H L ms.length h2 → K (.d (.int .i64 e)) h2) :
    C Try.prog (fun q => q ∈ L.all) 35 [.d (.int .i64 i), .d (.int .i64 j), .agg (zaL z), .d (.ptr t7 0), .d (.ptr t3 0)] h' K := by
  obtain ⟨b, rfl, hb, hf⟩ := hg
  obtain ⟨o3, o4, o7⟩ := Bx.o b hf.n
  have hzt : z.text.length ≤ 16777216 := by
    have := hz.t
    have h1 := hz.w1
    have h2 := hc.ca
    have h3 := hc.bl
    have : z.wp * c.bl ≤ 4096 * 4096 := Int.mul_le_mul (by omega) h3.2 (by omega) (by decide)
    omega
  refine C.of_body lay layf mixed (gl := fun _ => false) (dr := fun _ => none) _ _ _ Try.func35 rfl rfl rfl rfl rfl rfl ?_
  conv => whnf
  refine GB.mk (fun hcc => ?_) (fun hcc => ?_)
  · conv => whnf
    have hd : z.done = false := by simpa using hcc
    exact Fin.same (hk _ ⟨b, rfl, hb, hf.congr fun i' zs' j' z' hi' hj' => by
      by_cases e : i' = i ∧ j' = j
      · obtain ⟨rfl, rfl⟩ := e
        rw [hi] at hi'; cases hi'
        rw [hj] at hj'; cases hj'
        rw [pos_at, pos_next, S1, hd]; rfl
      · exact (pos_else _ _ _ (by omega)).symm⟩)
  · have hd : z.done = true := by simpa using hcc
    conv => whnf
    refine ObjK.mk _ ((over_out o7).trans Bx.x7) ?_
    conv => whnf
    refine CallX.mk (fun q => q ∈ L.all) (fun q hq => ⟨.inl hq, id⟩) (iput_c hb t3 ((over_out o3).trans Bx.x3) i j z.text (by omega) _ ?_)
    obtain ⟨k1, k2⟩ := putA_ok hb.ok i j z.text
    rw [over_bus k2.symm]
    have hp := fun (f' : Nat → Nat → ZA → Zn) h0 h1 h2 => hf.put (f' := f') hi hj z.text h0 h1 h2
    have hb1 := hb.over k1 k2
    rw [over_bus k2.symm] at hb1
    generalize putA b i j z.text = p at *
    obtain ⟨b1, e1⟩ := p
    dsimp only at k1 k2 hp hb1 ⊢
    obtain ⟨q3, q4, q7⟩ := Bx.o b1 (by rw [k2]; exact hf.n)
    conv => whnf
    refine GB.mk (fun hne => ?_) (fun hne => ?_)
    · simp only [decide_eq_true_eq] at hne
      conv => whnf
      exact Fin.same (he _ _ hne ⟨b1, rfl, hb1, by rw [k2]; exact hf.n⟩)
    · simp only [decide_eq_false_iff_not, Classical.not_not] at hne
      have hf1 := hp (fun i' j' z' => if i' = i ∧ j' = j then { pos (S0 c) (S1 c) i j i' j' z' with data := (pos (S0 c) (S1 c) i j i' j' z').data ++ z.text } else pos (S0 c) (S1 c) i j i' j' z') hne (if_pos ⟨rfl, rfl⟩) (fun i' zs' j' z' _ _ hh => if_neg (by omega))
      obtain ⟨u1, u2⟩ := hf1.fin (f' := pos (S0 c) (S1 c) i (j + 1)) hi hj (by rw [if_pos ⟨rfl, rfl⟩, pos_next, pos_at, S1, if_pos hd]) (fun i' zs' j' z' _ _ hh => by rw [if_neg (by omega)]; exact pos_else _ _ _ hh)
      have k3 := BusA.do_len hb1.ok i (fun d => d.finish j)
      conv => whnf
      refine ObjK.mk _ ((over_out q3).trans Bx.x3) ?_
      conv => whnf
      refine CallX.mk (fun q => q ∈ L.all) (fun q hq => ⟨.inl hq, id⟩) (bfinish_c hb1 i j _ ?_)
      have hb2 := hb1.over u2.ok k3
      rw [over_bus (by exact k3.symm)] at hb2
      rw [over_bus (by exact k3.symm), u1]
      conv => whnf
      exact Fin.same (hk _ ⟨_, rfl, hb2, u2⟩)

theorem lay3_c (Bx : Box H L c ms.length t3 t4 t7) (hc : Good c) {i : Nat} {zs : List ZA} {j : Nat} {z : ZA} {h' : Heap} (hi : ms[i]? = some zs) (hj : zs[j]? = some z) (hz : z.good c.ca c.bl) (hg : GH H L ms ac (pos (S1 c) (S2 c) i j) h')
    (K : AV → Heap → Prop) (hk : ∀ h2, GH H L ms ac (pos (S1 c) (S2 c) i (j + 1)) h2 → K (.d (.int .i64 0)) h2) (he : ∀ (e : Int) h2, e ≠ 0 → EH H L ms.length h2 → K (.d (.int .i64 e)) h2) :
    C Try.prog (fun q => q ∈ L.all) 37 [.d (.int .i64 i), .d (.int .i64 j), .agg (zaL z), .d (.ptr t7 0), .d (.ptr t4 0)] h' K := by
  obtain ⟨b, rfl, hb, hf⟩ := hg
  obtain ⟨o3, o4, o7⟩ := Bx.o b hf.n
  have g1 := hz.w1
  have g2 := hc.ca
  have g3 := hc.bl
  have g4 := hz.s0
  have g5 := hz.s1
  have g6 := hz.t
  have hsb : z.safe * c.bl ≤ z.wp * c.bl := Int.mul_le_mul_of_nonneg_right g5 (by omega)
  have hzt : z.text.length ≤ 16777216 := by
    have : z.wp * c.bl ≤ 4096 * 4096 := Int.mul_le_mul (by omega) g3.2 (by omega) (by decide)
    omega
  have hpl : (partA z.text 0 z.safe c.bl).length ≤ 16777216 := by simp [partA]; omega
  refine C.of_body lay layf mixed (gl := fun _ => false) (dr := fun r => match r with | 3 => some (.flo 0 (.flo 1 (.flo 2 (.flo 3 (.flo 4 (.flo 5 (.flo 6 (.flo 7 (.flo 8 (.flo 9 (.alt 10 (.alt 11 (.flo 12 (.fin)) (.non)) (.non)))))))))))) | _ => none) _ _ _ Try.func37 rfl rfl rfl rfl (by kernel_rfl) rfl ?_
  conv => whnf
  refine GB.mk (fun hd => ?_) (fun hd => ?_)
  · conv => whnf
    exact Fin.same (hk _ ⟨b, rfl, hb, hf.congr fun i' zs' j' z' hi' hj' => by
      by_cases e : i' = i ∧ j' = j
      · obtain ⟨rfl, rfl⟩ := e
        rw [hi] at hi'; cases hi'
        rw [hj] at hj'; cases hj'
        rw [pos_at, pos_next, S2, if_pos hd]
      · exact (pos_else _ _ _ (by omega)).symm⟩)
  · conv => whnf
    refine ObjK.mk _ ((over_out o7).trans Bx.x7) ?_
    conv => whnf
    refine ObjK.mk _ ((over_out o4).trans Bx.x4) ?_
    conv => whnf
    have n4 : t4 ∉ L.all := fun hm => hb.mem hm o4
    have n7 : t7 ∉ L.all := fun hm => hb.mem hm o7
    refine CallX.mk _ (fun _ h => h.elim) (ipart_c z.text (by omega) 0 z.safe c.bl (by decide) g4 (by omega) (by omega) (by omega) (by omega) _ _ ?_)
    conv => whnf
    repeat (refine Rq.mk ?_ ?_; (focus (first | (rw [(over_out o4).trans Bx.x4]; simp; done) | (rw [(over_out o7).trans Bx.x7]; simp; done))); conv => whnf)
    refine CallX.mk (fun q => q ∈ L.all) (fun q hq => ⟨.inl hq, fun hm => ?_⟩) (iput_c hb t3 ((over_out o3).trans Bx.x3) i j (partA z.text 0 z.safe c.bl) (by omega) _ ?_)
    · have hm' : q ∈ [t4] := hm
      exact n4 (List.mem_singleton.1 hm' ▸ hq)
    obtain ⟨k1, k2⟩ := putA_ok hb.ok i j (partA z.text 0 z.safe c.bl)
    rw [over_bus k2.symm]
    have hp := fun (f' : Nat → Nat → ZA → Zn) h0 h1 h2 => hf.put (f' := f') hi hj (partA z.text 0 z.safe c.bl) h0 h1 h2
    have hb1 := hb.over k1 k2
    rw [over_bus k2.symm] at hb1
    generalize putA b i j (partA z.text 0 z.safe c.bl) = p at *
    obtain ⟨b1, e1⟩ := p
    dsimp only at k1 k2 hp hb1 ⊢
    obtain ⟨q3, q4, q7⟩ := Bx.o b1 (by rw [k2]; exact hf.n)
    conv => whnf
    repeat (refine Rq.mk ?_ ?_; (focus (first | (rw [(over_out q4).trans Bx.x4]; simp; done) | (rw [(over_out q7).trans Bx.x7]; simp; done))); conv => whnf)
    by_cases hne : e1 = 0
    · have hf1 := hp (pos (S1 c) (S2 c) i (j + 1)) hne (by rw [pos_next, pos_at, S2, if_neg (by rw [hd]; simp)]) (fun i' zs' j' z' _ _ hh => pos_else _ _ _ hh)
      subst hne
      exact Fin.same (hk _ ⟨b1, rfl, hb1, hf1⟩)
    · exact Fin.same (he _ _ hne ⟨b1, rfl, hb1, by rw [k2]; exact hf.n⟩)


theorem lay4_c (Bx : Box H L c ms.length t3 t4 t7) (hc : Good c) {i : Nat} {zs : List ZA} {j : Nat} {z : ZA} {h' : Heap} (hi : ms[i]? = some zs) (hj : zs[j]? = some z) (hz : z.good c.ca c.bl) (hg : GH H L ms ac (pos (S3 c) (S4 c) i j) h')
    (K : AV → Heap → Prop) (hk : ∀ h2, GH H L ms ac (pos (S3 c) (S4 c) i (j + 1)) h2 → K (.d (.int .i64 0)) h2) (he : ∀ (e : Int) h2, e ≠ 0 → EH H L ms.length h2 → K (.d (.int .i64 e)) h2) :
    C Try.prog (fun q => q ∈ L.all) 39 [.d (.int .i64 i), .d (.int .i64 j), .agg (zaL z), .d (.ptr t7 0), .d (.ptr t4 0)] h' K := by
  obtain ⟨b, rfl, hb, hf⟩ := hg
  obtain ⟨o3, o4, o7⟩ := Bx.o b hf.n
  have g1 := hz.w1
  have g2 := hc.ca
  have g3 := hc.bl
  have g4 := hz.s0
  have g5 := hz.s1
  have g6 := hz.t
  have hsb : z.safe * c.bl ≤ z.wp * c.bl := Int.mul_le_mul_of_nonneg_right g5 (by omega)
  have hzt : z.text.length ≤ 16777216 := by
    have : z.wp * c.bl ≤ 4096 * 4096 := Int.mul_le_mul (by omega) g3.2 (by omega) (by decide)
    omega
  have hpl : (partA z.text z.safe z.wp c.bl).length ≤ 16777216 := by simp [partA]; omega
  refine C.of_body lay layf mixed (gl := fun _ => false) (dr := fun r => match r with | 3 => some (.flo 0 (.flo 1 (.flo 2 (.flo 3 (.flo 4 (.flo 5 (.flo 6 (.flo 7 (.flo 8 (.flo 9 (.flo 10 (.flo 11 (.flo 12 (.alt 13 (.alt 14 (.flo 15 (.fin)) (.non)) (.non))))))))))))))) | _ => none) _ _ _ Try.func39 rfl rfl rfl rfl (by kernel_rfl) rfl ?_
  conv => whnf
  refine GB.mk (fun hd => ?_) (fun hd => ?_)
  · conv => whnf
    exact Fin.same (hk _ ⟨b, rfl, hb, hf.congr fun i' zs' j' z' hi' hj' => by
      by_cases e : i' = i ∧ j' = j
      · obtain ⟨rfl, rfl⟩ := e
        rw [hi] at hi'; cases hi'
        rw [hj] at hj'; cases hj'
        rw [pos_at, pos_next, S4, if_pos hd]
      · exact (pos_else _ _ _ (by omega)).symm⟩)
  · conv => whnf
    refine ObjK.mk _ ((over_out o7).trans Bx.x7) ?_
    conv => whnf
    refine ObjK.mk _ ((over_out o4).trans Bx.x4) ?_
    conv => whnf
    have n4 : t4 ∉ L.all := fun hm => hb.mem hm o4
    have n7 : t7 ∉ L.all := fun hm => hb.mem hm o7
    refine CallX.mk _ (fun _ h => h.elim) (ipart_c z.text (by omega) z.safe z.wp c.bl g4 g5 (by omega) (by omega) (by omega) (by omega) _ _ ?_)
    conv => whnf
    repeat (refine Rq.mk ?_ ?_; (focus (first | (rw [(over_out o4).trans Bx.x4]; simp; done) | (rw [(over_out o7).trans Bx.x7]; simp; done))); conv => whnf)
    refine CallX.mk (fun q => q ∈ L.all) (fun q hq => ⟨.inl hq, fun hm => ?_⟩) (iput_c hb t3 ((over_out o3).trans Bx.x3) i j (partA z.text z.safe z.wp c.bl) (by omega) _ ?_)
    · have hm' : q ∈ [t4] := hm
      exact n4 (List.mem_singleton.1 hm' ▸ hq)
    obtain ⟨k1, k2⟩ := putA_ok hb.ok i j (partA z.text z.safe z.wp c.bl)
    rw [over_bus k2.symm]
    have hp := fun (f' : Nat → Nat → ZA → Zn) h0 h1 h2 => hf.put (f' := f') hi hj (partA z.text z.safe z.wp c.bl) h0 h1 h2
    have hb1 := hb.over k1 k2
    rw [over_bus k2.symm] at hb1
    generalize putA b i j (partA z.text z.safe z.wp c.bl) = p at *
    obtain ⟨b1, e1⟩ := p
    dsimp only at k1 k2 hp hb1 ⊢
    obtain ⟨q3, q4, q7⟩ := Bx.o b1 (by rw [k2]; exact hf.n)
    conv => whnf
    repeat (refine Rq.mk ?_ ?_; (focus (first | (rw [(over_out q4).trans Bx.x4]; simp; done) | (rw [(over_out q7).trans Bx.x7]; simp; done))); conv => whnf)
    by_cases hne : e1 = 0
    · have hf1 := hp (pos (S3 c) (S4 c) i (j + 1)) hne (by rw [pos_next, pos_at, S4, if_neg (by rw [hd]; simp)]) (fun i' zs' j' z' _ _ hh => pos_else _ _ _ hh)
      subst hne
      exact Fin.same (hk _ ⟨b1, rfl, hb1, hf1⟩)
    · exact Fin.same (he _ _ hne ⟨b1, rfl, hb1, by rw [k2]; exact hf.n⟩)


end Go.Proofs.Ytjnhijpophmmgaa
