/- RvImg7: what functions of the program that the law reaches compute, each stated as a contract, for the law ImageAny. -/
import Derived.Test.YtjnhijpophmmgaaRvImg6
set_option linter.unusedVariables false
set_option linter.unusedSimpArgs false
namespace Go.Proofs.Ytjnhijpophmmgaa
open Go Go.Proofs.Rv
set_option maxRecDepth 20000

theorem GH.next {H : Heap} {L : BusL} {ms : List (List ZA)} {ac : Nat} {S S' : ZA → Zn} {i : Nat} {zs : List ZA} {h : Heap} (hi : ms[i]? = some zs) (g : GH H L ms ac (pos S S' i zs.length) h) : GH H L ms ac (pos S S' (i + 1) 0) h := by
  obtain ⟨b, h1, h2, h3⟩ := g
  refine ⟨b, h1, h2, h3.congr fun k zs' l z hk hl => ?_⟩
  have hll := (List.getElem?_eq_some_iff.1 hl).1
  unfold pos
  by_cases e : k = i
  · subst e
    rw [hi] at hk; cases hk
    rw [if_pos (.inr ⟨rfl, hll⟩), if_pos (.inl (by omega))]
  · have : (k < i ∨ (k = i ∧ l < zs.length)) ↔ (k < i + 1 ∨ (k = i + 1 ∧ l < 0)) := by omega
    simp only [this]

theorem GH.first {H : Heap} {L : BusL} {ms : List (List ZA)} {ac : Nat} {S S' : ZA → Zn} {h : Heap} (g : GH H L ms ac (fun _ _ z => S z) h) : GH H L ms ac (pos S S' 0 0) h := by
  obtain ⟨b, h1, h2, h3⟩ := g
  exact ⟨b, h1, h2, h3.congr fun k zs' l z hk hl => by simp [pos]⟩

theorem GH.last {H : Heap} {L : BusL} {ms : List (List ZA)} {ac : Nat} {S S' : ZA → Zn} {h : Heap} (g : GH H L ms ac (pos S S' ms.length 0) h) : GH H L ms ac (fun _ _ z => S' z) h := by
  obtain ⟨b, h1, h2, h3⟩ := g
  refine ⟨b, h1, h2, h3.congr fun k zs' l z hk hl => ?_⟩
  have hkk := (List.getElem?_eq_some_iff.1 hk).1
  unfold pos
  rw [if_pos (.inl hkk)]

/-- Members are being lost. -/
structure Kil (c : Cf) (ms : List (List ZA)) (ac i : Nat) (b : BusA) : Prop where
  ok : b.ok
  n : b.devs.length = ms.length
  down : b.down = false
  fuse : b.fuse = -1
  times : ∀ t ∈ b.times, t = -1
  dev : ∀ (k : Nat) (d : DevA) (zs : List ZA), ms[k]? = some zs → b.devs[k]? = some d → (zs = [] → k < i → d.dead = true) ∧ (zs ≠ [] → d.dead = false ∧ d.zones.length = ac ∧ ∀ (j : Nat) (z : ZA), zs[j]? = some z → d.zones[j]? = some (S4 c z))

theorem Kil.first {c : Cf} {ms : List (List ZA)} {ac : Nat} {b : BusA} (h : Fill ms ac (fun _ _ z => S4 c z) b) : Kil c ms ac 0 b :=
  ⟨h.ok, h.n, h.down, h.fuse, h.times, fun k d zs hk hd => ⟨fun _ h0 => by omega, fun _ => ⟨(h.dev k d hd).1, (h.dev k d hd).2, fun j z hz => h.z k zs j z d hk hz hd⟩⟩⟩

theorem Kil.keep {c : Cf} {ms : List (List ZA)} {ac i : Nat} {zs : List ZA} {b : BusA} (h : Kil c ms ac i b) (hi : ms[i]? = some zs) (hz : zs ≠ []) : Kil c ms ac (i + 1) b :=
  ⟨h.ok, h.n, h.down, h.fuse, h.times, fun k d zs' hk hd => ⟨fun h0 h1 => by
    by_cases e : k = i
    · subst e; rw [hi] at hk; cases hk; exact absurd h0 hz
    · exact (h.dev k d zs' hk hd).1 h0 (by omega), (h.dev k d zs' hk hd).2⟩⟩

theorem Kil.kill {c : Cf} {ms : List (List ZA)} {ac i : Nat} {b : BusA} (h : Kil c ms ac i b) (hi : ms[i]? = some []) : Kil c ms ac (i + 1) (b.kill i 0) ∧ (b.kill i 0).devs.length = b.devs.length := by
  have ib : i < b.devs.length := by rw [h.n]; exact (List.getElem?_eq_some_iff.1 hi).1
  have hd : b.devs[i]? = some (b.dev i) := BusA.dev_get (m := i) (by omega) (by omega)
  have e : b.kill i 0 = b.setDev i (b.dev i).kill := by
    unfold BusA.kill
    rw [if_neg (by simp [BusA.there, ib]), if_pos (by decide), Int.toNat_natCast]
  rw [e]
  refine ⟨⟨BusA.setDev_ok h.ok i (DevA.kill_fit (BusA.dev_fit h.ok (by omega) (by omega))), by simp [BusA.setDev, h.n], h.down, h.fuse, h.times, fun k d zs' hk hd' => ?_⟩, by simp [BusA.setDev]⟩
  by_cases ek : k = i
  · subst ek
    rw [hi] at hk; cases hk
    simp [BusA.setDev, ib] at hd'
    subst hd'
    exact ⟨fun _ _ => rfl, fun hh => absurd rfl hh⟩
  · simp only [BusA.setDev] at hd'
    rw [List.getElem?_set_ne (fun hh => ek hh.symm)] at hd'
    exact ⟨fun h0 h1 => (h.dev k d zs' hk hd').1 h0 (by omega), (h.dev k d zs' hk hd').2⟩

theorem part_all (z : ZA) {ca bl : Int} (g : z.good ca bl) (hb : 0 ≤ bl) : partA z.text 0 z.safe bl ++ partA z.text z.safe z.wp bl = z.text := by
  have h1 := g.s0
  have h2 := g.s1
  have h3 := g.t
  have h4 : z.safe * bl ≤ z.wp * bl := Int.mul_le_mul_of_nonneg_right h2 hb
  have h5 : 0 ≤ z.safe * bl := Int.mul_nonneg h1 hb
  have e : (z.wp - z.safe) * bl = z.wp * bl - z.safe * bl := Int.sub_mul ..
  unfold partA
  rw [Int.zero_mul, Int.sub_zero, e]
  simp only [Int.toNat_zero, List.drop_zero]
  rw [List.take_of_length_le (l := z.text.drop _) (by simp; omega)]
  exact List.take_append_drop _ _

theorem S4_at {c : Cf} (hc : Good c) {z : ZA} (g : z.good c.ca c.bl) : ZAt c (S4 c z) z := by
  have hca := hc.ca
  have hbl := hc.bl
  have hn : Zn.new c.ca c.bl = ⟨c.ca, c.bl, [], 0, false⟩ := by
    unfold Zn.new
    rw [show min (max c.ca 1) 4096 = c.ca by omega, show min (max c.bl 1) 4096 = c.bl by omega]
  have hm : max c.bl 1 = c.bl := by omega
  have ht := g.t
  have hw : ∀ (x : Int) (l : List UInt8), (l.length : Int) = x * c.bl → (l.length : Int) / c.bl = x := fun x l hl => by rw [hl]; exact Int.mul_ediv_cancel _ (by omega)
  have hs : ((partA z.text 0 z.safe c.bl).length : Int) = z.safe * c.bl := by
    have h2 := g.s1
    have h1 := g.s0
    have h4 : z.safe * c.bl ≤ z.wp * c.bl := Int.mul_le_mul_of_nonneg_right h2 (by omega)
    have h5 : 0 ≤ z.safe * c.bl := Int.mul_nonneg h1 (by omega)
    simp [partA]; omega
  cases hd : z.done with
  | true =>
    have hs' := g.d hd
    have e : S4 c z = ⟨c.ca, c.bl, z.text, z.wp, true⟩ := by
      simp [S4, S3, S2, S1, S0, hd, hn, Zn.finish, Zn.flush, Zn.wp, hm, hw z.wp z.text ht]
    rw [e]
    exact ⟨by simp [Zn.wp, hm, hw z.wp z.text ht], hs'.symm, hd.symm, rfl, hm⟩
  | false =>
    have e : S4 c z = ⟨c.ca, c.bl, z.text, z.safe, false⟩ := by
      simp [S4, S3, S2, S1, S0, hd, hn, Zn.flush, Zn.wp, hm, hw z.safe _ hs, part_all z g (by omega)]
    rw [e]
    exact ⟨by simp [Zn.wp, hm, hw z.wp z.text ht], rfl, hd.symm, rfl, hm⟩

theorem Kil.last {c : Cf} {ms : List (List ZA)} {ac : Nat} {b : BusA} (hc : Good c) (hz : ∀ zs ∈ ms, zs = [] ∨ (zs.length = ac ∧ ∀ z ∈ zs, z.good c.ca c.bl)) (h : Kil c ms ac ms.length b) : Holds c ms b := by
  refine ⟨h.n, h.down, h.fuse, h.times, fun i d hi hd => (h.dev i d [] hi hd).1 rfl (List.getElem?_eq_some_iff.1 hi).1, fun i d zs hi hne hd => ?_⟩
  obtain ⟨k1, k2, k3⟩ := (h.dev i d zs hi hd).2 hne
  obtain ⟨l1, l2⟩ := (hz zs (List.mem_of_getElem? hi)).resolve_left hne
  refine ⟨k1, by rw [k2, l1], fun j x z hx hzj => ?_⟩
  rw [k3 j z hzj] at hx
  cases hx
  exact S4_at hc (l2 z (List.mem_of_getElem? hzj))
end Go.Proofs.Ytjnhijpophmmgaa
