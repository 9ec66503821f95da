/- RvImg3: what functions of the program that the law reaches compute, each stated as a contract, for the law ImageAny. -/
import Derived.Test.YtjnhijpophmmgaaRvImg2
set_option linter.unusedVariables false
set_option linter.unusedSimpArgs false
namespace Go.Proofs.Ytjnhijpophmmgaa
open Go Go.Proofs.Rv
set_option maxRecDepth 20000

/-- A zone of a member holds a zone of an image. -/
structure ZAt (c : Cf) (x : Zn) (z : ZA) : Prop where
  wp : x.wp = z.wp
  safe : x.safe = z.safe
  done : x.done = z.done
  data : x.data = z.text
  bl : max x.block 1 = c.bl

/-- A bus holds an image. -/
structure Holds (c : Cf) (ms : List (List ZA)) (b : BusA) : Prop where
  n : b.devs.length = ms.length
  down : b.down = false
  fuse : b.fuse = -1
  times : ∀ t ∈ b.times, t = -1
  dead : ∀ (i : Nat) (d : DevA), ms[i]? = some [] → b.devs[i]? = some d → d.dead = true
  live : ∀ (i : Nat) (d : DevA) (zs : List ZA), ms[i]? = some zs → zs ≠ [] → b.devs[i]? = some d → d.dead = false ∧ d.zones.length = zs.length ∧ ∀ (j : Nat) (x : Zn) (z : ZA), d.zones[j]? = some x → zs[j]? = some z → ZAt c x z

theorem loseAt_none {b : BusA} (ht : ∀ t ∈ b.times, t = -1) (i : Nat) : b.loseAt i = b := by
  unfold BusA.loseAt
  split
  · rename_i t d h1 _
    rw [if_neg (by rw [ht t (List.mem_of_getElem? h1)]; omega)]
  · rfl
theorem loseN_none {b : BusA} (ht : ∀ t ∈ b.times, t = -1) : ∀ i, b.loseN i = b
  | 0 => rfl
  | i + 1 => by rw [BusA.loseN, loseN_none ht i, loseAt_none ht]

/-- A bus that is up counts a command, and that is all. -/
theorem command_up {b : BusA} (hd : b.down = false) (hf : b.fuse = -1) (ht : ∀ t ∈ b.times, t = -1) {m : Int} (h0 : 0 ≤ m) (h1 : m < b.devs.length) : b.command m = ({ b with count := IntKind.i64.wrap (b.count + 1) }, 0) := by
  unfold BusA.command
  have h2 : b.there m = true := by simp [BusA.there, h0, h1]
  have e : b.cmd1 = { b with count := IntKind.i64.wrap (b.count + 1) } := by unfold BusA.cmd1; rw [if_neg (by omega)]
  rw [if_neg (by rw [h2]; simp), if_neg (by rw [hd]; simp), if_neg (by rw [hf]; decide), e, BusA.lose, loseN_none (by exact ht)]

theorem Holds.count {c : Cf} {ms : List (List ZA)} {b : BusA} (h : Holds c ms b) (n : Int) : Holds c ms { b with count := n } := ⟨h.n, h.down, h.fuse, h.times, h.dead, h.live⟩

theorem setDev_self {b : BusA} {i : Nat} {d : DevA} (h : b.devs[i]? = some d) : b.setDev i d = b := by
  obtain ⟨hi, rfl⟩ := List.getElem?_eq_some_iff.1 h
  simp [BusA.setDev]

/-- Reading a zone of a bus that holds an image. -/
theorem Holds.text {c : Cf} {ms : List (List ZA)} {b : BusA} (h : Holds c ms b) {i j : Nat} {zs : List ZA} {z : ZA} (hi : ms[i]? = some zs) (hj : zs[j]? = some z) (hz : z.good c.ca c.bl) :
    (∃ n, (textA b i j z.wp).1 = { b with count := n }) ∧ (textA b i j z.wp).2 = (z.text, 0) ∧ b.there i = true ∧ (b.dev i).right j = 0 ∧ ((b.dev i).at_ j).wp = z.wp ∧ ((b.dev i).at_ j).safe = z.safe ∧ ((b.dev i).at_ j).done = z.done := by
  have il := (List.getElem?_eq_some_iff.1 hi).1
  have ib : i < b.devs.length := by rw [h.n]; exact il
  have hne : zs ≠ [] := by rintro rfl; simp at hj
  have hd : b.devs[i]? = some (b.dev i) := BusA.dev_get (m := i) (by omega) (by omega)
  obtain ⟨l1, l2, l3⟩ := h.live i _ zs hi hne hd
  have jl : j < (b.dev i).zones.length := by rw [l2]; exact (List.getElem?_eq_some_iff.1 hj).1
  have hx : (b.dev i).zones[j]? = some ((b.dev i).at_ j) := by unfold DevA.at_; rw [Int.toNat_natCast, List.getElem?_eq_getElem jl]; rfl
  have za := l3 j _ z hx hj
  have hr : (b.dev i).right j = 0 := by unfold DevA.right; rw [if_neg (by rw [l1]; simp), if_neg (by omega)]
  have hth : b.there i = true := by simp [BusA.there, ib]
  refine ⟨?_, ?_, hth, hr, za.wp, za.safe, za.done⟩
  all_goals
    unfold textA
    split
    · rename_i h0
      first
      | exact ⟨b.count, rfl⟩
      | have := hz.t
        rw [h0, Int.zero_mul] at this
        have e : z.text = [] := List.eq_nil_of_length_eq_zero (by omega)
        rw [e]
    · rename_i h0
      unfold BusA.read
      have hc := command_up h.down h.fuse h.times (m := i) (by omega) (by omega)
      rw [hc]
      dsimp only
      rw [if_neg (by simp)]
      have hd' : (({ b with count := IntKind.i64.wrap (b.count + 1) } : BusA).dev i) = b.dev i := rfl
      rw [hd']
      have hrd : (b.dev i).read j 0 z.wp = (b.dev i, z.text, 0) := by
        have w0 := hz.w0
        have hzr : ((b.dev i).at_ j).read 0 z.wp = (z.text, 0) := by
          unfold Zn.read
          rw [if_neg (by rw [za.wp]; omega), za.data, za.bl]
          have := hz.t
          rw [Int.zero_mul, ← this]
          simp
        unfold DevA.read
        rw [if_neg (by rw [hr]; simp), hzr]
        simp [DevA.count]
      rw [hrd]
      try exact ⟨_, setDev_self (b := { b with count := _ }) hd⟩

theorem pre_succ {α : Type} {l : List α} {i : Nat} {x : α} (h : l[i]? = some x) : l.take (i + 1) = l.take i ++ [x] := by
  obtain ⟨hi, rfl⟩ := List.getElem?_eq_some_iff.1 h
  exact List.take_succ_eq_append_getElem hi

structure DInv (h : Heap) (L : BusL) (c : Cf) (ms : List (List ZA)) (i : Nat) (b : BusA) : Prop where
  le : i ≤ ms.length
  at_ : BusAt (h.over (busH L b)) L b
  ho : Holds c ms b

def dB (c : Cf) (ms : List (List ZA)) (i : Nat) : List UInt8 := wI 88 ++ cfB c ++ msB (ms.take i)
def dB2 (c : Cf) (ms : List (List ZA)) (i : Nat) (zs : List ZA) (j : Nat) : List UInt8 := dB c ms i ++ [wF zs.isEmpty] ++ zsB (zs.take j)
theorem dB_le {c : Cf} {ms : List (List ZA)} {x : List UInt8} (im : Img x c ms) (i : Nat) : (dB c ms i).length ≤ x.length := by
  rw [im.b, dB]
  have : msB ms = msB (ms.take i) ++ msB (ms.drop i) := by rw [← msB_append, List.take_append_drop]
  rw [this]; simp only [List.length_append]; omega
theorem dB_all {c : Cf} {ms : List (List ZA)} {x : List UInt8} (im : Img x c ms) : dB c ms ms.length = x := by
  rw [im.b, dB, List.take_length, List.append_assoc]
theorem dB_succ {c : Cf} {ms : List (List ZA)} {i : Nat} {zs : List ZA} (h : ms[i]? = some zs) : dB c ms (i + 1) = dB2 c ms i zs zs.length := by
  rw [dB, pre_succ h, msB_append, msB_one, dB2, dB, List.take_length, mB]
  simp
theorem dB2_le {c : Cf} {ms : List (List ZA)} {x : List UInt8} (im : Img x c ms) {i : Nat} {zs : List ZA} (h : ms[i]? = some zs) (j : Nat) : (dB2 c ms i zs j).length ≤ x.length := by
  refine Nat.le_trans ?_ (dB_le im (i + 1))
  rw [dB_succ h, dB2, dB2]
  have : zsB zs = zsB (zs.take j) ++ zsB (zs.drop j) := by rw [← zsB_append, List.take_append_drop]
  rw [List.take_length, this]; simp only [List.length_append]; omega
theorem dB2_succ {c : Cf} {ms : List (List ZA)} {i : Nat} {zs : List ZA} {j : Nat} {z : ZA} (h : zs[j]? = some z) : dB2 c ms i zs (j + 1) = dB2 c ms i zs j ++ wI z.wp ++ wI z.safe ++ [wF z.done] ++ (wI z.text.length ++ z.text) := by
  rw [dB2, pre_succ h, zsB_append, zsB_one, dB2, zB]
  simp
theorem zsB_take_le {zs : List ZA} (j : Nat) (h : zs.length ≤ j) : zs.take j = zs := List.take_of_length_le h

theorem Holds.isDead {c : Cf} {ms : List (List ZA)} {b : BusA} (h : Holds c ms b) {i : Nat} {zs : List ZA} (hi : ms[i]? = some zs) : (!b.there i || (b.dev i).dead) = zs.isEmpty := by
  have ib : i < b.devs.length := by rw [h.n]; exact (List.getElem?_eq_some_iff.1 hi).1
  have hd : b.devs[i]? = some (b.dev i) := BusA.dev_get (m := i) (by omega) (by omega)
  have hth : b.there i = true := by simp [BusA.there, ib]
  rw [hth, Bool.not_true, Bool.false_or]
  cases zs with
  | nil => exact h.dead i _ hi hd
  | cons z zs => exact (h.live i _ _ hi (by simp) hd).1

structure DInv2 (h : Heap) (L : BusL) (c : Cf) (ms : List (List ZA)) (n : Nat) (j : Nat) (b : BusA) : Prop where
  le : j ≤ n
  at_ : BusAt (h.over (busH L b)) L b
  ho : Holds c ms b

theorem idump_c {h : Heap} {L : BusL} {b : BusA} (hb : BusAt h L b) (c : Cf) (ms : List (List ZA)) (x : List UInt8) (im : Img x c ms) (hx : x.length ≤ 1073741824) (hh : Holds c ms b) (K : AV → Heap → Prop)
    (hK : ∀ b', BusAt (h.over (busH L b')) L b' → K (.tup [.d (BL x), .d (.int .i64 0)]) (h.over (busH L b'))) :
    C Try.prog (fun q => q ∈ L.all) 7 [.d (.ptr L.o 0), .agg (cfL c)] h K := by
  have hc := im.good
  have hml : (ms.length : Int) = c.me := im.len
  obtain ⟨ac, hac⟩ : ∃ ac : Nat, c.mt + c.zo + c.sp = ac := ⟨(c.mt + c.zo + c.sp).toNat, by have := hc.mt; have := hc.zo; have := hc.sp; omega⟩
  have hac64 : ac ≤ 64 := by have := hc.all; omega
  have hms := hc.me
  refine C.of_body lay layf mixed (gl := fun _ => false) (dr := fun r => match r with | 17 => some (.flo 0 (.flo 1 (.flo 2 (.flo 4 (.flo 5 (.flo 7 (.flo 8 (.flo 10 (.alt 3 (.alt 6 (.alt 9 (.alt 11 (.flo 12 (.fin)) (.non)) (.non)) (.non)) (.non)))))))))) | _ => none) _ _ _ Try.func7 rfl rfl rfl rfl (by kernel_rfl) rfl ?_
  conv => whnf
  refine CallX.mk _ (fun _ h => h.elim) (iright_c hb c _ (fun _ _ => ?_) (fun hn => absurd ⟨hc, by rw [hh.n]; exact hml⟩ hn))
  conv => whnf
  refine GB.mk (fun h => absurd h (by simp)) (fun _ => ?_)
  conv => whnf
  refine CallX.mk _ (fun _ h => h.elim) (put_c c _ _ ?_)
  conv => whnf
  refine CallX.mk _ (fun _ h => h.elim) (C.nils [] _ (pbytes_l [] (by simp) (cfB c) (by rw [cfB_length]; decide) _ _ ?_))
  rw [List.nil_append, show ((cfB c).length : Int) = 88 by rw [cfB_length]; rfl, show wI 88 ++ cfB c = dB c ms 0 by simp [dB, msB]]
  conv => whnf
  refine LoopX.mk lay layf mixed (gl := fun _ => false) (dr := fun r => match r with | 17 => some (.flo 0 (.flo 1 (.flo 2 (.flo 4 (.flo 5 (.flo 7 (.flo 8 (.flo 10 (.alt 3 (.alt 6 (.alt 9 (.alt 11 (.flo 12 (.fin)) (.non)) (.non)) (.non)) (.non)))))))))) | _ => none) (α := {s : Nat × BusA // DInv h L c ms s.1 s.2})
    (fun s => ⟨[.d (.ptr L.o 0), .undef, .undef, .lp 3 0, .undef, .undef, .undef, .d (BL (dB c ms s.1.1)), .undef, .undef, .undef, .undef, .undef, .undef, .undef, .undef, .undef, .undef, .undef, .undef, .undef, .undef, .undef, .undef, .d (.int .i64 c.me), .d (.int .i64 s.1.1), .undef, .undef, .undef, .undef, .undef, .undef, .undef, .undef, .undef, .undef, .undef, .undef, .undef, .undef, .undef, .undef, .undef, .undef, .undef, .undef, .undef, .undef, .undef, .undef, .undef, .undef, .undef, .undef, .undef, .undef, .undef, .undef, .undef, .undef, .undef, .undef, .undef, .undef, .undef, .undef, .undef, .undef, .undef, .undef, .undef, .undef, .undef], [(3, cfL c)], h.over (busH L s.1.2)⟩)
    (fun s => ms.length - s.1.1) ⟨(0, b), Nat.zero_le _, by rw [hb.self]; exact hb, hh⟩ (Le.of (by simp [leT, BL]) (fun _ _ h => h) (fun o ob ho => (congrFun hb.self o).symm.trans (show h.over (busH L b) o = some ob from ho))) rfl ?_
  rintro ⟨⟨i, b1⟩, ⟨hi, hb1, hh1⟩⟩
  dsimp only at hi hb1 hh1 ⊢
  conv => whnf
  refine GB.mk (fun hcc => ?_) (fun hcc => ?_)
  · simp only [decide_eq_true_eq] at hcc
    have hil : i < ms.length := by omega
    obtain ⟨zs, hzs⟩ : ∃ zs, ms[i]? = some zs := ⟨_, List.getElem?_eq_getElem hil⟩
    conv => whnf
    refine CallX.mk _ (fun _ h => h.elim) (bdead_c hb1 i _ ?_)
    rw [hh1.isDead hzs]
    conv => whnf
    refine CallX.mk _ (fun _ h => h.elim) (pflag_l (dB c ms i) (by have := dB_le im i; omega) zs.isEmpty _ _ ?_)
    rw [show dB c ms i ++ [wF zs.isEmpty] = dB2 c ms i zs 0 by simp [dB2, zsB]]
    conv => whnf
    refine CallX.mk _ (fun _ h => h.elim) (all_c c _ _ (fun hh => absurd hc.sane hh) (fun _ => ?_))
    rw [hac]
    conv => whnf
    refine LoopX.mk lay layf mixed (gl := fun _ => false) (dr := fun r => match r with | 17 => some (.flo 0 (.flo 1 (.flo 2 (.flo 4 (.flo 5 (.flo 7 (.flo 8 (.flo 10 (.alt 3 (.alt 6 (.alt 9 (.alt 11 (.flo 12 (.fin)) (.non)) (.non)) (.non)) (.non)))))))))) | _ => none) (α := {s : Nat × BusA // DInv2 h L c ms ac s.1 s.2})
      (fun s => ⟨[.d (.ptr L.o 0), .undef, .undef, .lp 3 0, .undef, .undef, .undef, .d (BL (dB2 c ms i zs s.1.1)), .d (.int .i64 i), .undef, .undef, .undef, .undef, .undef, .undef, .undef, .undef, .undef, .undef, .undef, .undef, .undef, .undef, .undef, .d (.int .i64 c.me), .d (.int .i64 i), .undef, .undef, .undef, .undef, .undef, .undef, .undef, .undef, .d (.int .i64 ac), .d (.int .i64 s.1.1), .undef, .undef, .undef, .undef, .undef, .undef, .undef, .undef, .undef, .undef, .undef, .undef, .undef, .undef, .undef, .undef, .undef, .undef, .undef, .undef, .undef, .undef, .undef, .undef, .undef, .undef, .undef, .undef, .undef, .undef, .undef, .undef, .undef, .undef, .undef, .undef, .undef], [(3, cfL c)], h.over (busH L s.1.2)⟩)
      (fun s => ac - s.1.1) ⟨(0, b1), Nat.zero_le _, hb1, hh1⟩ (Le.of (by simp [leT, BL]) (fun _ _ h => h) (fun _ _ h => h)) rfl ?_
    rintro ⟨⟨j, b2⟩, ⟨hj, hb2, hh2⟩⟩
    dsimp only at hj hb2 hh2 ⊢
    conv => whnf
    refine GB.mk (fun hcj => ?_) (fun hcj => ?_)
    · simp only [decide_eq_true_eq] at hcj
      have hjl : j < ac := by omega
      rcases im.ms zs (List.mem_of_getElem? hzs) with hz0 | ⟨hzl, hzg⟩
      · subst hz0
        have hd2 : ¬ (b2.there i = true ∧ (b2.dev i).right j = 0) := by
          rintro ⟨_, hr⟩
          have := hh2.isDead hzs
          unfold DevA.right at hr
          rename_i hth
          rw [hth, Bool.not_true, Bool.false_or] at this
          rw [if_pos (by rw [this]; rfl)] at hr; cases hr
        conv => whnf
        refine CallX.mk _ (fun _ h => h.elim) (blook_c hb2 i j _ (fun _ => ?_) (fun h1 h2 => absurd ⟨h1, h2⟩ hd2))
        conv => whnf
        refine Rq.mk (by first | exact id | exact notMem rfl) ?_
        conv => whnf
        refine GB.mk (fun _ => ?_) (fun h => absurd h (by decide))
        conv => whnf
        refine Wr.i64 (y := ((j + 1 : Nat) : Int)) (by omega) (by omega) (by omega) ?_
        conv => whnf
        refine ⟨⟨(j + 1, b2), by omega, hb2, hh2⟩, by simp; omega, ?_⟩
        dsimp only
        rw [show dB2 c ms i [] (j + 1) = dB2 c ms i [] j by simp [dB2]]
        exact Le.of (by simp [leT]) (lkL_app [(3, cfL c)] [(10, _)]) (fun _ _ h => h)
      · obtain ⟨z, hz⟩ : ∃ z, zs[j]? = some z := ⟨_, List.getElem?_eq_getElem (by omega)⟩
        have zg := hzg z (List.mem_of_getElem? hz)
        obtain ⟨⟨n, t1⟩, t2, t3, t4, t5, t6, t7⟩ := hh2.text hzs hz zg
        conv => whnf
        refine CallX.mk _ (fun _ h => h.elim) (blook_c hb2 i j _ (fun h => absurd ⟨t3, t4⟩ h) (fun _ _ => ?_))
        rw [t5, t6, t7]
        conv => whnf
        refine Rq.mk (by first | exact id | exact notMem rfl) ?_
        conv => whnf
        refine GB.mk (fun h => absurd h (by decide)) (fun _ => ?_)
        conv => whnf
        refine CallX.mk (fun q => q ∈ L.all) (fun q hq => ⟨.inl hq, id⟩) (itext_c hb2 i j z.wp z.safe z.done _ ?_)
        have l3 : (textA b2 i j z.wp).1.devs.length = b2.devs.length := by rw [t1]
        rw [over_bus l3.symm, t1, t2]
        generalize hb3e : ({ b2 with count := n } : BusA) = b3
        have hh3 : Holds c ms b3 := hb3e ▸ hh2.count n
        have hb3 : BusAt (h.over (busH L b3)) L b3 := by
          have := hb2.over (b' := b3) (by rw [← hb3e]; exact ⟨hb2.ok.t, hb2.ok.n, hb2.ok.m, hb2.ok.f, hb2.ok.u0, hb2.ok.u1⟩) (by rw [← hb3e])
          rw [over_bus (by rw [← hb3e])] at this
          exact this
        dsimp only
        have hle := dB2_le im hzs (j + 1)
        rw [dB2_succ hz] at hle
        simp only [List.length_append, wI_length] at hle
        conv => whnf
        refine GB.mk (fun h => absurd h (by decide)) (fun _ => ?_)
        conv => whnf
        refine CallX.mk _ (fun _ h => h.elim) (pint_l (dB2 c ms i zs j) (by omega) z.wp _ _ ?_)
        conv => whnf
        refine CallX.mk _ (fun _ h => h.elim) (pint_l (dB2 c ms i zs j ++ wI z.wp) (by simp only [List.length_append, wI_length]; omega) z.safe _ _ ?_)
        conv => whnf
        refine CallX.mk _ (fun _ h => h.elim) (pflag_l (dB2 c ms i zs j ++ wI z.wp ++ wI z.safe) (by simp only [List.length_append, wI_length]; omega) z.done _ _ ?_)
        conv => whnf
        refine CallX.mk _ (fun _ h => h.elim) (pbytes_l (dB2 c ms i zs j ++ wI z.wp ++ wI z.safe ++ [wF z.done]) (by simp only [List.length_append, wI_length, List.length_singleton]; omega) z.text (by omega) _ _ ?_)
        rw [← dB2_succ hz]
        conv => whnf
        refine Wr.i64 (y := ((j + 1 : Nat) : Int)) (by omega) (by omega) (by omega) ?_
        conv => whnf
        refine ⟨⟨(j + 1, b3), by omega, hb3, hh3⟩, by simp; omega, Le.of (by simp [leT, BL]) (lkL_app [(3, cfL c)] [(10, _)]) (fun _ _ h => h)⟩
    · simp only [decide_eq_false_iff_not] at hcj
      have hend : dB2 c ms i zs j = dB c ms (i + 1) := by
        rw [dB_succ hzs, dB2, dB2]
        rcases im.ms zs (List.mem_of_getElem? hzs) with hz0 | ⟨hzl, _⟩
        · rw [hz0]; simp
        · rw [List.take_of_length_le (by omega), List.take_length]
      rw [hend]
      conv => whnf
      refine ⟨_, Le.refl _, ?_⟩
      conv => whnf
      refine Wr.i64 (y := ((i + 1 : Nat) : Int)) (by omega) (by omega) (by omega) ?_
      conv => whnf
      refine ⟨⟨(i + 1, b2), by omega, hb2, hh2⟩, by simp; omega, Le.of (by simp [leT, BL]) (fun _ _ h => h) (fun _ _ h => h)⟩
  · simp only [decide_eq_false_iff_not] at hcc
    have hi' : i = ms.length := by omega
    subst hi'
    rw [dB_all im]
    conv => whnf
    refine ⟨_, Le.refl _, ?_⟩
    conv => whnf
    exact Fin.same (hK b1 hb1)
end Go.Proofs.Ytjnhijpophmmgaa
