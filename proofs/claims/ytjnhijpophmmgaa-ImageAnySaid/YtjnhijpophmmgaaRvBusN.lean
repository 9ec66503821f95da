/- RvBusN: what functions of the program that the law reaches compute, each stated as a contract, for the law ImageAny. -/
import Derived.Test.YtjnhijpophmmgaaRvBus
set_option linter.unusedVariables false
set_option linter.unusedSimpArgs false
namespace Go.Proofs.Ytjnhijpophmmgaa
open Go Go.Proofs.Rv
set_option maxRecDepth 20000
theorem dput_keep {h : Heap} {o oz q : Nat} {d : DevA} {x : Rv.Obj} (ho : h o = none) (hz : h oz = none) (e : h q = some x) : dput h o oz d q = some x := (Heap.upd_ne (Heap.ne e hz)).trans ((Heap.upd_ne (Heap.ne e ho)).trans e)
theorem accD_keep {h : Heap} {c c' : Option Nat} {n : Nat} {cs : List FV} {X x : Rv.Obj} {q : Nat} (ok : AccOK (delO h c) c' n cs) (e : h q = some x) (hc : c ≠ some q) : accH (delO h c) c' X q = some x := accH_get ok (delO_get e hc)
theorem accD_ne {h : Heap} {c c' : Option Nat} {n : Nat} {cs : List FV} {q : Nat} {x : Rv.Obj} (ok : AccOK (delO h c) c' n cs) (e : h q = some x) (hc : c ≠ some q) : c' ≠ some q := fun he => by
  have := ok.fresh q he; rw [delO_get e hc] at this; cases this
theorem Fz.fn' {F : Nat → Prop} {h : Heap} {f : Nat} {cs cs' : List FV} (hl : FzL F h cs cs') (hs : cs'.length = cs.length) : Fz F h (.fn f cs) (.fn f cs') := by
  obtain ⟨u, h1, h2⟩ := hl.sel
  exact .fn f cs cs' u hs h1 h2
theorem flatI_append (a b : List (Nat × Nat)) : flatI (a ++ b) = flatI a ++ flatI b := by
  induction a with
  | nil => rfl
  | cons p a ih => simp [flatI, ih]
theorem flatI_get : ∀ {ids : List (Nat × Nat)} {q : Nat}, q ∈ flatI ids → ∃ (k : Nat) (p : Nat × Nat), ids[k]? = some p ∧ (q = p.1 ∨ q = p.2)
  | [], _, h => by simp [flatI] at h
  | p :: ps, q, h => by
    simp [flatI] at h
    rcases h with h | h | h
    · exact ⟨0, p, rfl, .inl h⟩
    · exact ⟨0, p, rfl, .inr h⟩
    · obtain ⟨k, r, h1, h2⟩ := flatI_get h; exact ⟨k + 1, r, by simpa using h1, h2⟩

def BN (fr : FV) (c1 c2 c3 : Option Nat) (i j k : Nat) : Rv.Obj := ⟨[.acc c1 i, fr, .int .i64 (-1), .acc c2 j, .acc c3 k, .bool false, .int .i64 0, .int .i64 0], 74, 8, false, false⟩
def ptrs (ids : List (Nat × Nat)) : List FV := ids.map fun p => .ptr p.1 0
def ints (i : Nat) (n : Int) : List FV := (List.replicate i n).map fun n => .int .i64 n

structure NewS where
  H : Heap
  c1 : Option Nat
  c2 : Option Nat
  c3 : Option Nat
  ids : List (Nat × Nat)

structure NewI (h : Heap) (bo b6 b7 b8 b9 : Nat) (zones cap block limit : Int) (n : Nat) (s : NewS) : Prop where
  le : s.ids.length ≤ n
  sub : Has s.H h
  x6 : s.H b6 = some (IB zones)
  x7 : s.H b7 = some (IB cap)
  x8 : s.H b8 = some (IB block)
  x9 : s.H b9 = some (IB limit)
  o : s.H bo = some (BN (.fn 30 [.ptr b6 0, .ptr b7 0, .ptr b8 0, .ptr b9 0]) s.c1 s.c2 s.c3 s.ids.length s.ids.length s.ids.length)
  a1 : AccAt s.H s.c1 s.ids.length (ptrs s.ids) 67 1
  a2 : AccAt s.H s.c2 s.ids.length (ints s.ids.length (-1)) 3 1
  a3 : AccAt s.H s.c3 s.ids.length (ints s.ids.length 0) 3 1
  dv : ∀ (k : Nat) (p : Nat × Nat), s.ids[k]? = some p → DevAt s.H p.1 p.2 (.new zones cap block limit)
  nd : (flatI s.ids).Nodup
  out : ∀ q ∈ flatI s.ids, q ≠ bo ∧ s.c1 ≠ some q ∧ s.c2 ≠ some q ∧ s.c3 ≠ some q
  cs : s.c1 ≠ some bo ∧ s.c2 ≠ some bo ∧ s.c3 ≠ some bo ∧ (∀ q, s.c1 = some q → s.c2 ≠ some q ∧ s.c3 ≠ some q) ∧ ∀ q, s.c2 = some q → s.c3 ≠ some q
  ne : ∀ q, (q = b6 ∨ q = b7 ∨ q = b8 ∨ q = b9 ∨ h q ≠ none) → q ≠ bo ∧ s.c1 ≠ some q ∧ s.c2 ≠ some q ∧ s.c3 ≠ some q
  fr : ∀ q ∈ flatI s.ids, h q = none

theorem bnew_c (members zones cap block limit : Int) (h : Heap) (K : AV → Heap → Prop)
    (h0 : ¬ ((1 ≤ members ∧ members ≤ 16) ∧ (1 ≤ zones ∧ zones ≤ 64) ∧ (1 ≤ cap ∧ cap ≤ 4096) ∧ (1 ≤ block ∧ block ≤ 4096) ∧ 1 ≤ limit) → K (.tup [.d .nilp, .d (.int .i64 1)]) h)
    (h1 : (1 ≤ members ∧ members ≤ 16) ∧ (1 ≤ zones ∧ zones ≤ 64) ∧ (1 ≤ cap ∧ cap ≤ 4096) ∧ (1 ≤ block ∧ block ≤ 4096) ∧ 1 ≤ limit → ∀ L : BusL, L.fresh = frF zones cap block limit → (∀ q ∈ L.all, h q = none) →
      BusAt (h.over (busH L (.new members zones cap block limit))) L (.new members zones cap block limit) → K (.tup [.d (.ptr L.o 0), .d (.int .i64 0)]) (h.over (busH L (.new members zones cap block limit)))) :
    C Try.prog (fun _ => False) 10 [.d (.int .i64 members), .d (.int .i64 zones), .d (.int .i64 cap), .d (.int .i64 block), .d (.int .i64 limit)] h K := by
  refine C.of_body lay layf mixed (gl := fun t => Nat.beq t 6 || Nat.beq t 7 || Nat.beq t 8 || Nat.beq t 9 || Nat.beq t 36) (dr := fun r => match r with | 10 => some (.flo 0 (.flo 1 (.flo 2 (.flo 3 (.flo 4 (.flo 5 (.alt 6 (.alt 7 (.alt 8 (.flo 9 (.flo 10 (.alt 11 (.fin) (.non)))) (.non)) (.non)) (.non)))))))) | 11 => some (.flo 0 (.flo 1 (.flo 2 (.flo 3 (.flo 4 (.flo 5 (.flo 8 (.flo 9 (.flo 10 (.flo 11 (.alt 6 (.alt 7 (.alt 12 (.alt 13 (.flo 14 (.flo 15 (.alt 16 (.flo 17 (.flo 18 (.alt 19 (.fin) (.non)))) (.non)))) (.non)) (.non)) (.alt 12 (.alt 7 (.alt 13 (.flo 14 (.flo 15 (.alt 16 (.flo 17 (.flo 18 (.alt 19 (.fin) (.non)))) (.non)))) (.non)) (.non)) (.non))) (.alt 12 (.alt 6 (.alt 7 (.alt 13 (.flo 14 (.flo 15 (.alt 16 (.flo 17 (.flo 18 (.alt 19 (.fin) (.non)))) (.non)))) (.non)) (.non)) (.non)) (.non))))))))))))) | _ => none) _ _ _ Try.func10 rfl rfl rfl rfl (by kernel_rfl) rfl ?_
  conv => whnf
  refine NewK.mk fun b6 hb6 => ?_
  conv => whnf
  refine NewK.mk fun b7 hb7 => ?_
  conv => whnf
  refine NewK.mk fun b8 hb8 => ?_
  conv => whnf
  refine NewK.mk fun b9 hb9 => ?_
  conv => whnf
  obtain ⟨n97, n98, n96, g9⟩ : b9 ≠ b8 ∧ b9 ≠ b7 ∧ b9 ≠ b6 ∧ h b9 = none := by
    obtain ⟨e1, e2⟩ := Heap.upd_none hb9
    obtain ⟨e3, e4⟩ := Heap.upd_none e2
    obtain ⟨e5, e6⟩ := Heap.upd_none e4
    exact ⟨e1, e3, e5, e6⟩
  obtain ⟨n87, n86, g8⟩ : b8 ≠ b7 ∧ b8 ≠ b6 ∧ h b8 = none := by
    obtain ⟨e1, e2⟩ := Heap.upd_none hb8
    obtain ⟨e3, e4⟩ := Heap.upd_none e2
    exact ⟨e1, e3, e4⟩
  obtain ⟨n76, g7⟩ := Heap.upd_none hb7
  generalize hHB : (((h.upd b6 (IB zones)).upd b7 (IB cap)).upd b8 (IB block)).upd b9 (IB limit) = HB
  have x9 : HB b9 = some (IB limit) := by rw [← hHB]; exact Heap.upd_same
  have x8 : HB b8 = some (IB block) := by rw [← hHB]; exact (Heap.upd_ne n97.symm).trans Heap.upd_same
  have x7 : HB b7 = some (IB cap) := by rw [← hHB]; exact (Heap.upd_ne n98.symm).trans ((Heap.upd_ne n87.symm).trans Heap.upd_same)
  have x6 : HB b6 = some (IB zones) := by rw [← hHB]; exact (Heap.upd_ne n96.symm).trans ((Heap.upd_ne n86.symm).trans ((Heap.upd_ne n76.symm).trans Heap.upd_same))
  have hsub : Has HB h := fun q x e => by
    rw [← hHB]
    exact Heap.keep (by rw [Heap.upd_ne n97, Heap.upd_ne n98, Heap.upd_ne n96]; exact g9) (Heap.keep (by rw [Heap.upd_ne n87, Heap.upd_ne n86]; exact g8) (Heap.keep (by rw [Heap.upd_ne n76]; exact g7) (Heap.keep hb6 e)))
  have hHB' : (((h.upd b6 ⟨[.int .i64 zones], 3, 1, false, false⟩).upd b7 ⟨[.int .i64 cap], 3, 1, false, false⟩).upd b8 ⟨[.int .i64 block], 3, 1, false, false⟩).upd b9 ⟨[.int .i64 limit], 3, 1, false, false⟩ = HB := hHB
  rw [hHB']
  refine GB.mk (fun g1 => ?_) (fun g1 => ?_)
  · simp only [decide_eq_true_eq] at g1
    conv => whnf
    exact Rv.Fin.mk h hsub (h0 fun hh => by omega)
  simp only [decide_eq_false_iff_not] at g1
  conv => whnf
  refine GB.mk (fun g2 => ?_) (fun g2 => ?_)
  · simp only [decide_eq_true_eq] at g2
    conv => whnf
    exact Rv.Fin.mk h hsub (h0 fun hh => by omega)
  simp only [decide_eq_false_iff_not] at g2
  conv => whnf
  refine ObjK.mk _ (x6) ?_
  conv => whnf
  refine ObjK.mk _ (x7) ?_
  conv => whnf
  refine ObjK.mk _ (x8) ?_
  conv => whnf
  refine ObjK.mk _ (x9) ?_
  conv => whnf
  refine CallX.mk _ (fun _ h => h.elim) (dnew_c zones cap block limit HB _ (fun hn => ?_) (fun hp d0 z0 hd0 hz0 hdz => ?_))
  · conv => whnf
    refine GB.mk (fun _ => ?_) (fun h => absurd h (by simp))
    conv => whnf
    exact Rv.Fin.mk h hsub (h0 fun hh => hn hh.2)
  conv => whnf
  refine GB.mk (fun h => absurd h (by simp)) (fun _ => ?_)
  conv => whnf
  refine NewK.mk fun bo hbo => ?_
  conv => whnf
  have hob := Heap.upd_none (show HB.upd d0 (DO z0 (.new zones cap block limit)) bo = none from (Heap.upd_none hbo).2)
  have hbh : h bo = none := by
    cases e : h bo with
    | none => rfl
    | some x => have := dput_keep hd0 hz0 (hsub bo x e) (d := .new zones cap block limit); rw [hbo] at this; cases this
  have nb : ∀ q x, HB q = some x → q ≠ bo := fun q x e => Heap.ne (dput_keep hd0 hz0 e (d := .new zones cap block limit)) hbo
  have kp : ∀ q x Y, HB q = some x → ((dput HB d0 z0 (.new zones cap block limit)).upd bo Y) q = some x := fun q x Y e => Heap.keep hbo (dput_keep hd0 hz0 e)
  obtain ⟨n, rfl⟩ : ∃ n : Nat, members = n := ⟨members.toNat, by omega⟩
  refine LoopX.mk lay layf mixed (gl := fun t => Nat.beq t 6 || Nat.beq t 7 || Nat.beq t 8 || Nat.beq t 9 || Nat.beq t 36) (dr := fun r => match r with | 10 => some (.flo 0 (.flo 1 (.flo 2 (.flo 3 (.flo 4 (.flo 5 (.alt 6 (.alt 7 (.alt 8 (.flo 9 (.flo 10 (.alt 11 (.fin) (.non)))) (.non)) (.non)) (.non)))))))) | 11 => some (.flo 0 (.flo 1 (.flo 2 (.flo 3 (.flo 4 (.flo 5 (.flo 8 (.flo 9 (.flo 10 (.flo 11 (.alt 6 (.alt 7 (.alt 12 (.alt 13 (.flo 14 (.flo 15 (.alt 16 (.flo 17 (.flo 18 (.alt 19 (.fin) (.non)))) (.non)))) (.non)) (.non)) (.alt 12 (.alt 7 (.alt 13 (.flo 14 (.flo 15 (.alt 16 (.flo 17 (.flo 18 (.alt 19 (.fin) (.non)))) (.non)))) (.non)) (.non)) (.non))) (.alt 12 (.alt 6 (.alt 7 (.alt 13 (.flo 14 (.flo 15 (.alt 16 (.flo 17 (.flo 18 (.alt 19 (.fin) (.non)))) (.non)))) (.non)) (.non)) (.non)) (.non))))))))))))) | _ => none) (α := {s : NewS // NewI h bo b6 b7 b8 b9 zones cap block limit n s})
    (fun s => ⟨[.undef, .undef, .undef, .undef, .undef, .undef, .undef, .undef, .undef, .undef, .d .nilp, .d (.int .i64 0), .undef, .undef, .d (.fn 30 [.ptr b6 0, .ptr b7 0, .ptr b8 0, .ptr b9 0]), .d (.ptr bo 0), .undef, .undef, .undef, .undef, .undef, .undef, .undef, .undef, .undef, .undef, .undef, .undef, .undef, .undef, .undef, .undef, .undef, .undef, .undef, .undef, .undef, .d (.int .i64 n), .d (.int .i64 s.1.ids.length), .undef, .undef, .undef, .undef, .undef, .undef, .undef, .undef, .undef, .undef, .undef, .undef, .undef, .undef, .undef, .undef, .undef, .undef, .undef, .undef, .undef, .undef, .undef, .undef, .undef, .undef, .undef, .undef, .undef, .undef, .undef, .undef], [], s.1.H⟩)
    (fun s => n - s.1.ids.length) ⟨⟨(dput HB d0 z0 (.new zones cap block limit)).upd bo (BN (.fn 30 [.ptr b6 0, .ptr b7 0, .ptr b8 0, .ptr b9 0]) none none none 0 0 0), none, none, none, []⟩,
      Nat.zero_le _, fun q x e => kp q x _ (hsub q x e), kp _ _ _ x6, kp _ _ _ x7, kp _ _ _ x8, kp _ _ _ x9, Heap.upd_same, ⟨fun _ => ⟨rfl, rfl⟩, fun _ e => by cases e⟩, ⟨fun _ => ⟨rfl, rfl⟩, fun _ e => by cases e⟩, ⟨fun _ => ⟨rfl, rfl⟩, fun _ e => by cases e⟩,
      fun k p e => by simp at e, by simp [flatI], fun q hq => by simp [flatI] at hq, by simp, fun q hq => ⟨by
        rcases hq with rfl | rfl | rfl | rfl | hq
        · exact nb _ _ x6
        · exact nb _ _ x7
        · exact nb _ _ x8
        · exact nb _ _ x9
        · rintro rfl; exact hq hbh, by simp, by simp, by simp⟩, fun q hq => by simp [flatI] at hq⟩
    (Le.mkF (fun _ => False) (by simp [leA]) (fun _ _ h => h) (HFz.cell (fun _ e => e.elim) id (.cons .nilA (.cons (.refl _) (.cons (.refl _) (.cons .nilA (.cons .nilA (.refl _ _ _)))))))) rfl ?_
  rintro ⟨⟨H, c1, c2, c3, ids⟩, I⟩
  dsimp only
  have hle := I.le
  dsimp only at hle
  conv => whnf
  refine GB.mk (fun hc => ?_) (fun hc => ?_)
  · simp only [decide_eq_true_eq] at hc
    have hlt : ids.length < n := by omega
    obtain ⟨_, Isub, I6, I7, I8, I9, Io, Ia1, Ia2, Ia3, Idv, Ind, Iout, ⟨Ic1, Ic2, Ic3, Ic4, Ic5⟩, Ine, Ifr⟩ := I
    dsimp only at Isub I6 I7 I8 I9 Io Ia1 Ia2 Ia3 Idv Ind Iout Ic1 Ic2 Ic3 Ic4 Ic5 Ine Ifr ⊢
    conv => whnf
    refine ObjK.mk _ (Io) ?_
    conv => whnf
    refine CallX.mk _ (fun _ h => h.elim) (fresh_c b6 b7 b8 b9 zones cap block limit hp H I6 I7 I8 I9 _ (fun o oz ho hz hne => ?_))
    conv => whnf
    generalize hH1 : dput H o oz (.new zones cap block limit) = H1
    have k1 : ∀ q x, H q = some x → H1 q = some x := fun q x e => by rw [← hH1]; exact dput_keep ho hz e
    have d1 : DevAt H1 o oz (.new zones cap block limit) := by rw [← hH1]; exact DevAt.put hne
    repeat (refine Rq.mk ?_ ?_; (focus (first | (rw [k1 _ _ Io]; simp; done))); conv => whnf)
    refine Rq.mk (by rfl) ?_
    conv => whnf
    have A1 : AccAt H1 c1 ids.length (ptrs ids) 67 1 := Ia1.mono fun q _ x e => k1 q x e
    have wr : ∀ (c : Option Nat), (∀ q, h q ≠ none → c ≠ some q) → ∀ q, c = some q → False ∨ h q = none := fun c hc q hq => by
      cases e : h q with
      | none => exact .inr rfl
      | some x => exact absurd hq (hc q (by rw [e]; simp))
    refine AccX.mk _ (ptrs ids) A1.eq A1.ok (wr c1 fun q hq => (Ine q (.inr (.inr (.inr (.inr hq))))).2.1) (fun q hq => ?_) (by simp [ptrs]) (by omega) fun c1' ok1 => ?_
    · first | exact notMem rfl | exact fun hm => Ic1 (List.mem_singleton.1 hm ▸ hq)
    refine Nm.mk (ptrs (ids ++ [(o, oz)])) (by simp [ptrs]) ?_
    rw [show ptrs ids ++ [FV.ptr o 0] = ptrs (ids ++ [(o, oz)]) by simp [ptrs]] at ok1
    conv => whnf
    generalize hH2 : accH (delO H1 c1) c1' ⟨ptrs (ids ++ [(o, oz)]), 67, 1, false, true⟩ = H2
    have k2 : ∀ q x, H1 q = some x → c1 ≠ some q → H2 q = some x := fun q x e hc => by rw [← hH2]; exact accD_keep ok1 e hc
    have o2 := k2 _ _ (k1 _ _ Io) Ic1
    have N1 : AccAt H2 c1' (ids.length + 1) (ptrs (ids ++ [(o, oz)])) 67 1 := by rw [← hH2]; exact AccAt.new ok1
    have bo1 : c1' ≠ some bo := accD_ne ok1 (k1 _ _ Io) Ic1
    repeat (refine Rq.mk ?_ ?_; (focus (first | (rw [o2]; simp; done))); conv => whnf)
    refine ObjK.mk _ (o2) ?_
    conv => whnf
    refine Rq.mk ⟨rfl, .inr hbh, by first | exact id | exact notMem rfl | exact fun hm => absurd rfl (List.mem_singleton.1 hm)⟩ ?_
    conv => whnf
    generalize hH3 : H2.upd bo ⟨[.acc c1' (ids.length + 1), .fn 30 [.ptr b6 0, .ptr b7 0, .ptr b8 0, .ptr b9 0], .int .i64 (-1), .acc c2 ids.length, .acc c3 ids.length, .bool false, .int .i64 0, .int .i64 0], 74, 8, false, false⟩ = H3
    have o3 : H3 bo = some (BN (.fn 30 [.ptr b6 0, .ptr b7 0, .ptr b8 0, .ptr b9 0]) c1' c2 c3 (ids.length + 1) ids.length ids.length) := by rw [← hH3]; exact Heap.upd_same
    have k3 : ∀ q x, H2 q = some x → q ≠ bo → H3 q = some x := fun q x e hq => by rw [← hH3]; exact (Heap.upd_ne hq).trans e
    repeat (refine Rq.mk ?_ ?_; (focus (first | (rw [o3]; simp; done))); conv => whnf)
    refine ObjK.mk _ (o3) ?_
    conv => whnf
    refine ObjK.mk _ (o3) ?_
    conv => whnf
    have e2 : ∀ q x, H q = some x → q ≠ bo → c1 ≠ some q → H3 q = some x := fun q x e hq hc => k3 q x (k2 q x (k1 q x e) hc) hq
    have A2 : AccAt H3 c2 ids.length (ints ids.length (-1)) 3 1 := Ia2.mono fun q hq x e => e2 q x e (fun h => Ic2 (h ▸ hq)) (fun h => (Ic4 q h).1 hq)
    have A3 : AccAt H3 c3 ids.length (ints ids.length 0) 3 1 := Ia3.mono fun q hq x e => e2 q x e (fun h => Ic3 (h ▸ hq)) (fun h => (Ic4 q h).2 hq)
    have i2 : ints ids.length (-1) ++ [FV.int .i64 (-1)] = ints (ids.length + 1) (-1) := by simp [ints, List.replicate_succ']
    have i3 : ints ids.length 0 ++ [FV.int .i64 0] = ints (ids.length + 1) 0 := by simp [ints, List.replicate_succ']
    repeat' (first | (refine And.intro ?_ ?_ <;> conv => whnf) | (refine Rq.mk ?_ ?_; (focus (first | (rw [o3]; simp; done))); conv => whnf))
    all_goals
      refine Rq.mk (by rfl) ?_
      conv => whnf
      refine AccX.mk _ (ints ids.length (-1)) A2.eq A2.ok (wr c2 fun q hq => (Ine q (.inr (.inr (.inr (.inr hq))))).2.2.1) (fun q hq => ?_) (by simp [ints]) (by omega) fun c2' ok2 => ?_
      · first | exact notMem rfl | exact fun hm => Ic2 (List.mem_singleton.1 hm ▸ hq)
      refine Nm.mk (ints (ids.length + 1) (-1)) i2 ?_
      rw [i2] at ok2
      conv => whnf
      generalize hH4 : accH (delO H3 c2) c2' ⟨ints (ids.length + 1) (-1), 3, 1, false, true⟩ = H4
      have k4 : ∀ q x, H3 q = some x → c2 ≠ some q → H4 q = some x := fun q x e hc => by rw [← hH4]; exact accD_keep ok2 e hc
      have o4 := k4 _ _ o3 Ic2
      have N2 : AccAt H4 c2' (ids.length + 1) (ints (ids.length + 1) (-1)) 3 1 := by rw [← hH4]; exact AccAt.new ok2
      have bo2 : c2' ≠ some bo := accD_ne ok2 o3 Ic2
      repeat' (first | (refine And.intro ?_ ?_ <;> conv => whnf) | (refine Rq.mk ?_ ?_; (focus (first | (rw [o4]; simp; done))); conv => whnf))
      have A3' : AccAt H4 c3 ids.length (ints ids.length 0) 3 1 := A3.mono fun q hq x e => k4 q x e (fun h => Ic5 q h hq)
      refine Rq.mk (by rfl) ?_
      conv => whnf
      refine AccX.mk _ (ints ids.length 0) A3'.eq A3'.ok (wr c3 fun q hq => (Ine q (.inr (.inr (.inr (.inr hq))))).2.2.2) (fun q hq => ?_) (by simp [ints]) (by omega) fun c3' ok3 => ?_
      · first | exact notMem rfl | exact fun hm => Ic3 (List.mem_singleton.1 hm ▸ hq)
      refine Nm.mk (ints (ids.length + 1) 0) i3 ?_
      rw [i3] at ok3
      conv => whnf
      generalize hH5 : accH (delO H4 c3) c3' ⟨ints (ids.length + 1) 0, 3, 1, false, true⟩ = H5
      have k5 : ∀ q x, H4 q = some x → c3 ≠ some q → H5 q = some x := fun q x e hc => by rw [← hH5]; exact accD_keep ok3 e hc
      have o5 := k5 _ _ o4 Ic3
      have N3 : AccAt H5 c3' (ids.length + 1) (ints (ids.length + 1) 0) 3 1 := by rw [← hH5]; exact AccAt.new ok3
      have bo3 : c3' ≠ some bo := accD_ne ok3 o4 Ic3
      repeat' (first | (refine And.intro ?_ ?_ <;> conv => whnf) | (refine Rq.mk ?_ ?_; (focus (first | (rw [o5]; simp; done))); conv => whnf))
      refine ObjK.mk _ (o5) ?_
      conv => whnf
      refine Rq.mk ⟨rfl, .inr hbh, by first | exact id | exact notMem rfl | exact fun hm => absurd rfl (List.mem_singleton.1 hm)⟩ ?_
      conv => whnf
      repeat' (first | (refine And.intro ?_ ?_ <;> conv => whnf) | (refine Rq.mk ?_ ?_; (focus (first | (rw [Heap.upd_same]; simp; done))); conv => whnf))
      refine ObjK.mk _ (Heap.upd_same) ?_
      conv => whnf
      refine Rq.mk ⟨rfl, .inr hbh, by first | exact id | exact notMem rfl | exact fun hm => absurd rfl (List.mem_singleton.1 hm)⟩ ?_
      conv => whnf
      rw [Heap.upd_upd]
      repeat' (first | (refine And.intro ?_ ?_ <;> conv => whnf) | (refine Rq.mk ?_ ?_; (focus (first | (rw [Heap.upd_same]; simp; done))); conv => whnf))
      refine Wr.i64 (y := ((ids.length + 1 : Nat) : Int)) (by omega) (by omega) (by omega) ?_
      conv => whnf
      have f1 : ∀ q x, H q = some x → c1 ≠ some q → c1' ≠ some q := fun q x e hc => accD_ne ok1 (k1 q x e) hc
      have f2 : ∀ q x, H3 q = some x → c2 ≠ some q → c2' ≠ some q := fun q x e hc => accD_ne ok2 e hc
      have f3 : ∀ q x, H4 q = some x → c3 ≠ some q → c3' ≠ some q := fun q x e hc => accD_ne ok3 e hc
      have all : ∀ q x, H q = some x → q ≠ bo → c1 ≠ some q → c2 ≠ some q → c3 ≠ some q → (H5.upd bo (BN (.fn 30 [.ptr b6 0, .ptr b7 0, .ptr b8 0, .ptr b9 0]) c1' c2' c3' (ids.length + 1) (ids.length + 1) (ids.length + 1))) q = some x ∧ c1' ≠ some q ∧ c2' ≠ some q ∧ c3' ≠ some q :=
        fun q x e h0 h1 h2 h3 => ⟨(Heap.upd_ne h0).trans (k5 q x (k4 q x (e2 q x e h0 h1) h2) h3), f1 q x e h1, f2 q x (e2 q x e h0 h1) h2, f3 q x (k4 q x (e2 q x e h0 h1) h2) h3⟩
      have c1ne : ∀ q, c1' = some q → q ≠ bo ∧ c2 ≠ some q ∧ c3 ≠ some q := fun q hq => ⟨fun h => bo1 (h ▸ hq), fun h => f1 q _ (Ia2.get q h) (fun h' => (Ic4 q h').1 h) hq, fun h => f1 q _ (Ia3.get q h) (fun h' => (Ic4 q h').2 h) hq⟩
      have c2ne : ∀ q, c2' = some q → q ≠ bo ∧ c3 ≠ some q := fun q hq => ⟨fun h => bo2 (h ▸ hq), fun h => f2 q _ (A3.get q h) (fun h' => Ic5 q h' h) hq⟩
      have newd : ∀ q x, H1 q = some x → H q = none → (H5.upd bo (BN (.fn 30 [.ptr b6 0, .ptr b7 0, .ptr b8 0, .ptr b9 0]) c1' c2' c3' (ids.length + 1) (ids.length + 1) (ids.length + 1))) q = some x ∧ q ≠ bo ∧ c1' ≠ some q ∧ c2' ≠ some q ∧ c3' ≠ some q := fun q x e hn => by
        have m0 : q ≠ bo := (Heap.ne Io hn).symm
        have m1 : c1 ≠ some q := fun h => by rw [Ia1.get q h] at hn; cases hn
        have m2 : c2 ≠ some q := fun h => by rw [Ia2.get q h] at hn; cases hn
        have m3 : c3 ≠ some q := fun h => by rw [Ia3.get q h] at hn; cases hn
        have t3 := k3 q x (k2 q x e m1) m0
        have t4 := k4 q x t3 m2
        exact ⟨(Heap.upd_ne m0).trans (k5 q x t4 m3), m0, accD_ne ok1 e m1, f2 q x t3 m2, f3 q x t4 m3⟩
      refine ⟨⟨⟨H5.upd bo (BN (.fn 30 [.ptr b6 0, .ptr b7 0, .ptr b8 0, .ptr b9 0]) c1' c2' c3' (ids.length + 1) (ids.length + 1) (ids.length + 1)), c1', c2', c3', ids ++ [(o, oz)]⟩, ?_⟩, by simp; omega, Le.of (by simp [leT]) (fun _ _ h => h) (fun _ _ h => h)⟩
      have hlen : (ids ++ [(o, oz)]).length = ids.length + 1 := by simp
      have ins : ∀ q, (q = b6 ∨ q = b7 ∨ q = b8 ∨ q = b9 ∨ h q ≠ none) → ∃ x, H q = some x := fun q hq => by
        rcases hq with rfl | rfl | rfl | rfl | hq
        · exact ⟨_, I6⟩
        · exact ⟨_, I7⟩
        · exact ⟨_, I8⟩
        · exact ⟨_, I9⟩
        · cases e : h q with
          | none => exact absurd e hq
          | some x => exact ⟨x, Isub q x e⟩
      have alli : ∀ q x, (q = b6 ∨ q = b7 ∨ q = b8 ∨ q = b9 ∨ h q ≠ none) → H q = some x → _ := fun q x hq e => all q x e (Ine q hq).1 (Ine q hq).2.1 (Ine q hq).2.2.1 (Ine q hq).2.2.2
      refine ⟨by rw [hlen]; omega, fun q x e => (alli q x (.inr (.inr (.inr (.inr (by rw [e]; simp))))) (Isub q x e)).1, (alli b6 _ (.inl rfl) I6).1, (alli b7 _ (.inr (.inl rfl)) I7).1, (alli b8 _ (.inr (.inr (.inl rfl))) I8).1, (alli b9 _ (.inr (.inr (.inr (.inl rfl)))) I9).1,
        by dsimp only; rw [hlen]; exact Heap.upd_same, ?_, ?_, ?_, ?_, ?_, ?_, ?_, ?_, ?_⟩
      all_goals dsimp only
      · rw [hlen]; exact N1.mono fun q hq x e => (Heap.upd_ne (c1ne q hq).1).trans (k5 q x (k4 q x (k3 q x e (c1ne q hq).1) (c1ne q hq).2.1) (c1ne q hq).2.2)
      · rw [hlen]; exact N2.mono fun q hq x e => (Heap.upd_ne (c2ne q hq).1).trans (k5 q x e (c2ne q hq).2)
      · rw [hlen]; exact N3.mono fun q hq x e => (Heap.upd_ne (fun (h : q = bo) => bo3 (h ▸ hq))).trans e
      · intro k p hk
        rcases Nat.lt_or_ge k ids.length with hkl | hkl
        · rw [List.getElem?_append_left hkl] at hk
          obtain ⟨m1, m2⟩ := flatI_mem hk
          have hd := Idv k p hk
          obtain ⟨u0, u1, u2, u3⟩ := Iout _ m1
          obtain ⟨v0, v1, v2, v3⟩ := Iout _ m2
          exact ⟨(all _ _ hd.o u0 u1 u2 u3).1, (all _ _ hd.z v0 v1 v2 v3).1⟩
        · rw [List.getElem?_append_right hkl] at hk
          obtain ⟨_, rfl⟩ : k - ids.length = 0 ∧ p = (o, oz) := by
            cases hkk : k - ids.length with
            | zero => rw [hkk] at hk; simp at hk; exact ⟨rfl, hk.symm⟩
            | succ j => rw [hkk] at hk; simp at hk
          exact ⟨(newd o _ d1.o ho).1, (newd oz _ d1.z hz).1⟩
      · rw [flatI_append]
        refine List.nodup_append.2 ⟨Ind, by simp [flatI, hne], fun a ha b hb => ?_⟩
        obtain ⟨k, p, hk, hp⟩ := flatI_get ha
        have hd := Idv k p hk
        have hsome : H a ≠ none := by
          rcases hp with rfl | rfl
          · rw [hd.o]; simp
          · rw [hd.z]; simp
        simp [flatI] at hb
        rcases hb with rfl | rfl
        · rintro rfl; exact hsome ho
        · rintro rfl; exact hsome hz
      · intro q hq
        rw [flatI_append] at hq
        rcases List.mem_append.1 hq with hq | hq
        · obtain ⟨u0, u1, u2, u3⟩ := Iout q hq
          obtain ⟨k, p, hk, hp⟩ := flatI_get hq
          have hd := Idv k p hk
          have hsome : ∃ x, H q = some x := by
            rcases hp with rfl | rfl
            · exact ⟨_, hd.o⟩
            · exact ⟨_, hd.z⟩
          obtain ⟨x, hx⟩ := hsome
          exact ⟨u0, (all q x hx u0 u1 u2 u3).2⟩
        · simp [flatI] at hq
          rcases hq with rfl | rfl
          · exact (newd _ _ d1.o ho).2
          · exact (newd _ _ d1.z hz).2
      · refine ⟨bo1, bo2, bo3, fun q hq => ⟨?_, ?_⟩, fun q hq => ?_⟩
        · exact f2 q _ (k3 q _ (N1.get q hq) (c1ne q hq).1) (c1ne q hq).2.1
        · exact f3 q _ (k4 q _ (k3 q _ (N1.get q hq) (c1ne q hq).1) (c1ne q hq).2.1) (c1ne q hq).2.2
        · exact f3 q _ (N2.get q hq) (c2ne q hq).2
      · intro q hq
        obtain ⟨x, hx⟩ := ins q hq
        exact ⟨(Ine q hq).1, (alli q x hq hx).2⟩
      · intro q hq
        rw [flatI_append] at hq
        rcases List.mem_append.1 hq with hq | hq
        · exact Ifr q hq
        · have no : ∀ r, H r = none → h r = none := fun r hr => by
            cases e : h r with
            | none => rfl
            | some x => rw [Isub r x e] at hr; cases hr
          simp [flatI] at hq
          rcases hq with rfl | rfl
          · exact no _ ho
          · exact no _ hz
  · obtain ⟨_, Isub, I6, I7, I8, I9, Io, Ia1, Ia2, Ia3, Idv, Ind, Iout, ⟨Ic1, Ic2, Ic3, Ic4, Ic5⟩, Ine, Ifr⟩ := I
    dsimp only at Isub I6 I7 I8 I9 Io Ia1 Ia2 Ia3 Idv Ind Iout Ic1 Ic2 Ic3 Ic4 Ic5 Ine Ifr ⊢
    have hin : ids.length = n := by simp at hc; omega
    rw [hin] at Io Ia1 Ia2 Ia3
    obtain ⟨od, rfl⟩ : ∃ q, c1 = some q := by
      cases c1 with
      | none => have := (Ia1.nil rfl).1; omega
      | some q => exact ⟨q, rfl⟩
    obtain ⟨ot, rfl⟩ : ∃ q, c2 = some q := by
      cases c2 with
      | none => have := (Ia2.nil rfl).1; omega
      | some q => exact ⟨q, rfl⟩
    obtain ⟨otn, rfl⟩ : ∃ q, c3 = some q := by
      cases c3 with
      | none => have := (Ia3.nil rfl).1; omega
      | some q => exact ⟨q, rfl⟩
    have A1 := Ia1.get od rfl
    have A2 := Ia2.get ot rfl
    have A3 := Ia3.get otn rfl
    have nn : ∀ q, (q = bo ∨ q = od ∨ q = ot ∨ q = otn) → q ≠ b6 ∧ q ≠ b7 ∧ q ≠ b8 ∧ q ≠ b9 ∧ h q = none := fun q hq => by
      have hh : ∀ r, (r = b6 ∨ r = b7 ∨ r = b8 ∨ r = b9 ∨ h r ≠ none) → q ≠ r := fun r hr e => by
        obtain ⟨u0, u1, u2, u3⟩ := Ine r hr
        subst e
        rcases hq with rfl | rfl | rfl | rfl
        · exact u0 rfl
        · exact u1 rfl
        · exact u2 rfl
        · exact u3 rfl
      refine ⟨hh _ (.inl rfl), hh _ (.inr (.inl rfl)), hh _ (.inr (.inr (.inl rfl))), hh _ (.inr (.inr (.inr (.inl rfl)))), ?_⟩
      cases e : h q with
      | none => rfl
      | some x => exact absurd rfl (hh q (.inr (.inr (.inr (.inr (by rw [e]; simp))))))
    have dn : ∀ q ∈ flatI ids, ∃ x, H q = some x ∧ (x.es = 4 ∨ x.es = 5) := fun q hq => by
      obtain ⟨k, p, hk, hp⟩ := flatI_get hq
      have hd := Idv k p hk
      rcases hp with rfl | rfl
      · exact ⟨_, hd.o, .inl rfl⟩
      · exact ⟨_, hd.z, .inr rfl⟩
    have dnb : ∀ q ∈ flatI ids, q ≠ b6 ∧ q ≠ b7 ∧ q ≠ b8 ∧ q ≠ b9 := fun q hq => by
      obtain ⟨x, hx, he⟩ := dn q hq
      have hh : ∀ r v, H r = some (IB v) → q ≠ r := fun r v hr e => by
        subst e; rw [hx] at hr; cases hr; simp [IB] at he
      exact ⟨hh _ _ I6, hh _ _ I7, hh _ _ I8, hh _ _ I9⟩
    conv => whnf
    refine ⟨_, Le.refl _, ?_⟩
    conv => whnf
    have hK := h1 ⟨by omega, hp⟩ ⟨bo, od, ot, otn, ids, frF zones cap block limit⟩ rfl (fun q hq => ?_) ⟨Has.of_over, ⟨by simp [BusA.new], by simp [BusA.new], by simp [BusA.new]; omega, fun d hd => ?_, by simp [BusA.new], by simp [BusA.new]⟩, by simp [BusA.new, hin], ?_⟩
    · refine Fin.fz (fun q => q = b6 ∨ q = b7 ∨ q = b8 ∨ q = b9) _ _ (.refl _) (fun q x hq => ?_) hK
      unfold Heap.over at hq
      split at hq
      · rename_i y hy
        cases hq
        unfold busH at hy
        split at hy
        · rename_i e; subst e; cases hy
          have e1 : BO ⟨q, od, ot, otn, ids, frF zones cap block limit⟩ (.new n zones cap block limit) = ⟨[.ref od 0 n, frF zones cap block limit, .int .i64 (-1), .ref ot 0 n, .ref otn 0 n, .bool false, .int .i64 0, .int .i64 0], 74, 8, false, false⟩ := by simp [BO, BusA.new]
          rw [e1]
          obtain ⟨w1, w2, w3, w4, _⟩ := nn q (.inl rfl)
          refine ⟨fun hh => hh.elim w1 fun hh => hh.elim w2 fun hh => hh.elim w3 w4, _, Io, rfl, rfl, rfl, rfl, ?_⟩
          refine .cons (.accR od n _ (.refl _)) (.cons (Fz.fn' ?_ rfl) (.cons (.refl _) (.cons (.accR ot n _ (.refl _)) (.cons (.accR otn n _ (.refl _)) (.refl _ _ _)))))
          exact .cons (Fz.ptr0 (.inl rfl) I6 (.refl _ _ _)) (.cons (Fz.ptr0 (.inr (.inl rfl)) I7 (.refl _ _ _)) (.cons (Fz.ptr0 (.inr (.inr (.inl rfl))) I8 (.refl _ _ _)) (.cons (Fz.ptr0 (.inr (.inr (.inr rfl))) I9 (.refl _ _ _)) (.refl _ _ _))))
        · split at hy
          · rename_i e; subst e; cases hy
            obtain ⟨w1, w2, w3, w4, _⟩ := nn q (.inr (.inl rfl))
            exact ⟨fun hh => hh.elim w1 fun hh => hh.elim w2 fun hh => hh.elim w3 w4, _, A1, rfl, rfl, rfl, rfl, .refl _ _ _⟩
          · split at hy
            · rename_i e; subst e; cases hy
              obtain ⟨w1, w2, w3, w4, _⟩ := nn q (.inr (.inr (.inl rfl)))
              exact ⟨fun hh => hh.elim w1 fun hh => hh.elim w2 fun hh => hh.elim w3 w4, _, A2, rfl, rfl, rfl, rfl, .refl _ _ _⟩
            · split at hy
              · rename_i e; subst e; cases hy
                obtain ⟨w1, w2, w3, w4, _⟩ := nn q (.inr (.inr (.inr rfl)))
                exact ⟨fun hh => hh.elim w1 fun hh => hh.elim w2 fun hh => hh.elim w3 w4, _, A3, rfl, rfl, rfl, rfl, .refl _ _ _⟩
              · have hm : q ∈ flatI ids := Classical.byContradiction fun hn => by rw [devsH_none hn] at hy; cases hy
                obtain ⟨w1, w2, w3, w4⟩ := dnb q hm
                obtain ⟨k, p, hk, hpq⟩ := flatI_get hm
                have hd := Idv k p hk
                have hkl : k < n := by rw [← hin]; exact (List.getElem?_eq_some_iff.1 hk).1
                obtain ⟨v1, v2⟩ := devsH_get Ind hk (ds := (BusA.new n zones cap block limit).devs) (d := .new zones cap block limit) (by simp [BusA.new, hkl])
                refine ⟨fun hh => hh.elim w1 fun hh => hh.elim w2 fun hh => hh.elim w3 w4, ?_⟩
                rcases hpq with rfl | rfl
                · rw [v1] at hy; cases hy; exact ⟨_, hd.o, rfl, rfl, rfl, rfl, .refl _ _ _⟩
                · rw [v2] at hy; cases hy; exact ⟨_, hd.z, rfl, rfl, rfl, rfl, .refl _ _ _⟩
      · refine ⟨?_, x, Isub q x hq, rfl, rfl, rfl, rfl, .refl _ _ _⟩
        rintro (rfl | rfl | rfl | rfl)
        · rw [hb6] at hq; cases hq
        · rw [g7] at hq; cases hq
        · rw [g8] at hq; cases hq
        · rw [g9] at hq; cases hq
    · simp only [BusL.all, List.mem_cons] at hq
      rcases hq with hq | hq | hq | hq | hq
      · exact (nn q (.inl hq)).2.2.2.2
      · exact (nn q (.inr (.inl hq))).2.2.2.2
      · exact (nn q (.inr (.inr (.inl hq)))).2.2.2.2
      · exact (nn q (.inr (.inr (.inr hq)))).2.2.2.2
      · exact Ifr q hq
    · simp [BusA.new] at hd
      rw [hd.2]
      refine ⟨by simp [DevA.new]; omega, fun x hx => ?_⟩
      simp [DevA.new] at hx
      rw [hx.2]; exact Zn.new_fit _ _
    · simp only [BusL.all, List.nodup_cons]
      refine ⟨?_, ?_, ?_, ?_, Ind⟩
      · simp only [List.mem_cons, not_or]
        exact ⟨fun h => Ic1 (by rw [h]), fun h => Ic2 (by rw [h]), fun h => Ic3 (by rw [h]), fun h => (Iout _ h).1 rfl⟩
      · simp only [List.mem_cons, not_or]
        exact ⟨fun h => (Ic4 od rfl).1 (by rw [h]), fun h => (Ic4 od rfl).2 (by rw [h]), fun h => (Iout _ h).2.1 rfl⟩
      · simp only [List.mem_cons, not_or]
        exact ⟨fun h => Ic5 ot rfl (by rw [h]), fun h => (Iout _ h).2.2.1 rfl⟩
      · exact fun h => (Iout _ h).2.2.2 rfl
end Go.Proofs.Ytjnhijpophmmgaa
