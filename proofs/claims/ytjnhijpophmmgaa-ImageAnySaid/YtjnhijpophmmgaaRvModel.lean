/- RvModel: what the inner packages compute, in plain Lean: readers, zones, members, the bus. -/
import Derived.Test.YtjnhijpophmmgaaRvLib
set_option linter.unusedVariables false
set_option linter.unusedSimpArgs false
namespace Go.Proofs.Rv
open Go

/-- Bytes, as a list value. -/
def BL (bs : List UInt8) : FV := .lst bs.length (u8s bs)

theorem fdiv64 (n : Int) (i : Nat) : n / 2 ^ (8 * i) = n.fdiv (2 ^ (8 * i)) := by
  rw [Int.fdiv_eq_ediv_of_nonneg]; exact Int.le_of_lt (Int.pow_pos (by decide))

/-- The number of bytes, the least first. -/
def leS (bs : List UInt8) : Nat → Nat
  | 0 => 0
  | i + 1 => leS bs i + ((bs[i]?).getD 0).toNat * 2 ^ (8 * i)

theorem leS_lt (bs : List UInt8) : ∀ i, leS bs i < 2 ^ (8 * i)
  | 0 => by simp [leS]
  | i + 1 => by
    have h1 := leS_lt bs i
    have h2 := UInt8.toNat_lt ((bs[i]?).getD 0)
    simp only [leS]
    have e : 2 ^ (8 * (i + 1)) = 256 * 2 ^ (8 * i) := by rw [Nat.mul_add, Nat.pow_add]; simp [Nat.mul_comm]
    have h3 : ((bs[i]?).getD 0).toNat * 2 ^ (8 * i) ≤ 255 * 2 ^ (8 * i) := Nat.mul_le_mul_right _ (by omega)
    omega

/-- The signed number of 64 bits. -/
theorem wrap64 (x : Int) : ∃ k : Int, IntKind.i64.wrap x = x + k * 18446744073709551616 := by
  refine ⟨-((x + 9223372036854775808) / 18446744073709551616), ?_⟩
  simp only [IntKind.wrap, IntKind.bits, IntKind.signed]
  simp
  have := Int.emod_add_mul_ediv (x + 9223372036854775808) 18446744073709551616
  omega

theorem bv_wrap (x : Int) : BitVec.ofInt 64 (IntKind.i64.wrap x) = BitVec.ofInt 64 x := by
  obtain ⟨k, hk⟩ := wrap64 x
  rw [hk]
  apply BitVec.eq_of_toNat_eq
  simp [BitVec.toNat_ofInt]

theorem or_disj (a b i : Nat) (h : b < 2 ^ i) : b ||| a * 2 ^ i = b + a * 2 ^ i := by
  rw [Nat.or_comm, Nat.mul_comm, ← Nat.two_pow_add_eq_or_of_lt h, Nat.add_comm]

theorem rdA_bv (bs : List UInt8) : ∀ i, i ≤ 8 → BitVec.ofInt 64 (rdA bs i) = BitVec.ofNat 64 (leS bs i) ∧ rdA bs i = IntKind.i64.wrap (leS bs i)
  | 0, _ => by simp [rdA, leS]; decide
  | i + 1, hi => by
    obtain ⟨h1, h2⟩ := rdA_bv bs i (by omega)
    have hlt := leS_lt bs i
    have hlt1 := leS_lt bs (i + 1)
    have hp : 2 ^ (8 * (i + 1)) ≤ 2 ^ 64 := Nat.pow_le_pow_right (by decide) (by omega)
    have hp0 : 2 ^ (8 * i) ≤ 2 ^ (8 * (i + 1)) := Nat.pow_le_pow_right (by decide) (by omega)
    have hx : BitVec.ofInt 64 (IntKind.i64.wrap ((((bs[i]?).getD 0).toNat : Int) * 2 ^ (8 * i))) = BitVec.ofNat 64 (((bs[i]?).getD 0).toNat * 2 ^ (8 * i)) := by
      rw [bv_wrap]
      have : ((((bs[i]?).getD 0).toNat : Int) * 2 ^ (8 * i)) = ((((bs[i]?).getD 0).toNat * 2 ^ (8 * i) : Nat) : Int) := by push_cast; rfl
      rw [this]; exact BitVec.ofInt_natCast ..
    have hor : (BitVec.ofInt 64 (rdA bs i) ||| BitVec.ofInt 64 (IntKind.i64.wrap ((((bs[i]?).getD 0).toNat : Int) * 2 ^ (8 * i)))).toNat = leS bs (i + 1) := by
      rw [h1, hx, BitVec.toNat_or, BitVec.toNat_ofNat, BitVec.toNat_ofNat, Nat.mod_eq_of_lt (by omega), Nat.mod_eq_of_lt (by simp only [leS] at hlt1; omega), or_disj _ _ _ hlt]
      rfl
    have e : rdA bs (i + 1) = IntKind.i64.wrap (leS bs (i + 1)) := by
      simp only [rdA, bitsI]
      rw [show IntKind.i64.bits = 64 from rfl, hor]
    refine ⟨?_, e⟩
    rw [e, bv_wrap]; exact BitVec.ofInt_natCast ..

theorem leS_byte (bs : List UInt8) : ∀ n i, i < n → leS bs n / 2 ^ (8 * i) % 256 = ((bs[i]?).getD 0).toNat
  | 0, i, h => by omega
  | n + 1, i, h => by
    have hlt := leS_lt bs n
    have hb := UInt8.toNat_lt ((bs[n]?).getD 0)
    simp only [leS]
    rcases Nat.lt_or_ge i n with hi | hi
    · have ih := leS_byte bs n i hi
      have e : ((bs[n]?).getD 0).toNat * 2 ^ (8 * n) = 2 ^ (8 * i) * (256 * (((bs[n]?).getD 0).toNat * 2 ^ (8 * (n - i - 1)))) := by
        have : 8 * n = 8 * i + (8 + 8 * (n - i - 1)) := by omega
        rw [this, Nat.pow_add, Nat.pow_add]
        simp only [show (2 : Nat) ^ 8 = 256 from rfl]
        simp only [Nat.mul_left_comm, Nat.mul_assoc]
      rw [e, Nat.add_mul_div_left _ _ (Nat.pow_pos (by decide)), Nat.add_mul_mod_self_left]
      exact ih
    · obtain rfl : i = n := by omega
      rw [Nat.add_mul_div_right _ _ (Nat.pow_pos (by decide)), Nat.div_eq_of_lt hlt]
      omega

/-- Eight bytes, read and written again. -/
theorem wI_rdI (bs : List UInt8) (h : bs.length = 8) : wI (rdI bs) = bs := by
  have e : rdI bs = IntKind.i64.wrap (leS bs 8) := (rdA_bv bs 8 (Nat.le_refl _)).2
  obtain ⟨k, hk⟩ := wrap64 (leS bs 8)
  refine List.ext_getElem? fun i => ?_
  rcases Nat.lt_or_ge i 8 with hi | hi
  · have hb := leS_byte bs 8 i hi
    simp only [wI, List.getElem?_map]
    rw [List.getElem?_range hi]
    simp only [Option.map_some]
    have hget : bs[i]? = some ((bs[i]?).getD 0) := by rw [List.getElem?_eq_getElem (by omega)]; rfl
    rw [hget]
    congr 1
    rw [e, hk]
    have hd : ((leS bs 8 : Int) + k * 18446744073709551616) / 2 ^ (8 * i) % 256 = ((leS bs 8 / 2 ^ (8 * i) % 256 : Nat) : Int) := by
      have h64 : (18446744073709551616 : Int) = 2 ^ (8 * i) * (256 * 2 ^ (8 * (7 - i))) := by
        rw [show (256 : Int) = 2 ^ 8 from rfl, ← Int.pow_add, ← Int.pow_add, show 8 * i + (8 + 8 * (7 - i)) = 64 by omega]; rfl
      rw [h64, show k * ((2 : Int) ^ (8 * i) * (256 * 2 ^ (8 * (7 - i)))) = (2 ^ (8 * i)) * (256 * (k * 2 ^ (8 * (7 - i)))) by
        simp only [Int.mul_left_comm, Int.mul_assoc], Int.add_mul_ediv_left _ _ (Int.ne_of_gt (Int.pow_pos (by decide))), Int.add_mul_emod_self_left]
      generalize leS bs 8 = S
      rw [Int.natCast_emod, Int.natCast_ediv, Int.natCast_pow]; rfl
    simp only [by8, hd, hb]
    exact UInt8.toNat.inj (by simp)
  · rw [List.getElem?_eq_none (by rw [wI_length]; exact hi), List.getElem?_eq_none (by omega)]

theorem wrap_fit64 (n : Int) (h1 : -9223372036854775808 ≤ n) (h2 : n ≤ 9223372036854775807) : IntKind.i64.wrap n = n := wrap_fit .i64 n h1 h2

/-- A reader: bytes, a place, the first error. -/
structure Rd where
  b : List UInt8
  at_ : Nat
  e : Int

def Rd.take (r : Rd) (n : Nat) : List UInt8 × Rd :=
  if r.e = 0 then (if r.b.length < r.at_ + n then ([], { r with e := 14 }) else ((r.b.drop r.at_).take n, { r with at_ := r.at_ + n })) else ([], r)
def Rd.int (r : Rd) (lo hi : Int) : Int × Rd :=
  if (r.take 8).2.e = 0 then (if lo ≤ rdI (r.take 8).1 ∧ rdI (r.take 8).1 ≤ hi then (rdI (r.take 8).1, (r.take 8).2) else (0, { (r.take 8).2 with e := 13 })) else (0, (r.take 8).2)
def Rd.bytes (r : Rd) (most : Int) : List UInt8 × Rd := (r.int 0 most).2.take (r.int 0 most).1.toNat
def Rd.flag (r : Rd) : Bool × Rd :=
  if (r.take 1).2.e = 0 then (if (((r.take 1).1[0]?).getD 0).toNat ≤ 1 then ((((r.take 1).1[0]?).getD 0).toNat == 1, (r.take 1).2) else (false, { (r.take 1).2 with e := 13 })) else (false, (r.take 1).2)
def Rd.rest (r : Rd) : List UInt8 := r.b.drop r.at_
def Rd.ok (r : Rd) : Prop := r.at_ ≤ r.b.length ∧ (r.e = 0 ∨ r.e = 13 ∨ r.e = 14)

/-- A truth as a byte. -/
def wF (b : Bool) : UInt8 := if b then 1 else 0

/-- From one place to another: bytes that were read, if there is no error. -/
structure Eats (r r' : Rd) (s : List UInt8) : Prop where
  ok : r.ok → r'.ok
  b : r'.b = r.b
  e : r'.e = 0 → r.e = 0 ∧ r.rest = s ++ r'.rest
  at_ : r.at_ ≤ r'.at_

theorem Eats.refl (r : Rd) : Eats r r [] := ⟨id, rfl, fun h => ⟨h, rfl⟩, Nat.le_refl _⟩
theorem Eats.trans {r r1 r2 : Rd} {s t : List UInt8} (h1 : Eats r r1 s) (h2 : Eats r1 r2 t) : Eats r r2 (s ++ t) :=
  ⟨fun h => h2.ok (h1.ok h), h2.b.trans h1.b, fun h => by
    obtain ⟨e1, e2⟩ := h2.e h
    obtain ⟨e3, e4⟩ := h1.e e1
    exact ⟨e3, by rw [e4, e2, List.append_assoc]⟩, Nat.le_trans h1.at_ h2.at_⟩

theorem Rd.take_eats (r : Rd) (n : Nat) : Eats r (r.take n).2 (r.take n).1 ∧ ((r.take n).2.e = 0 → (r.take n).1.length = n) ∧ (r.take n).1.length ≤ n := by
  unfold Rd.take
  split
  · rename_i h0
    split
    · rename_i hlt
      exact ⟨⟨fun h => ⟨h.1, .inr (.inr rfl)⟩, rfl, fun h => by simp at h, Nat.le_refl _⟩, fun h => by simp at h, by simp⟩
    · rename_i hge
      refine ⟨⟨fun h => ⟨by simp only; omega, h.2⟩, rfl, fun _ => ⟨h0, ?_⟩, by simp⟩, fun _ => by simp; omega, by simp; omega⟩
      simp only [Rd.rest]
      rw [← List.drop_drop, List.take_append_drop]
  · rename_i h0
    exact ⟨⟨id, rfl, fun h => absurd h h0, Nat.le_refl _⟩, fun h => absurd h h0, by simp⟩

theorem Rd.int_eats (r : Rd) (lo hi : Int) : Eats r (r.int lo hi).2 (wI (r.int lo hi).1) ∧ ((r.int lo hi).2.e = 0 → lo ≤ (r.int lo hi).1 ∧ (r.int lo hi).1 ≤ hi) ∧ ((r.int lo hi).2.e ≠ 0 → (r.int lo hi).1 = 0) := by
  obtain ⟨h1, h2, _⟩ := r.take_eats 8
  unfold Rd.int
  split
  · rename_i h0
    split
    · rename_i hb
      rw [show wI (rdI (r.take 8).1) = (r.take 8).1 from wI_rdI _ (h2 h0)]
      exact ⟨h1, fun _ => hb, fun h => absurd h0 h⟩
    · refine ⟨⟨fun h => ⟨(h1.ok h).1, .inr (.inl rfl)⟩, h1.b, fun h => by simp at h, h1.at_⟩, fun h => by simp at h, fun _ => rfl⟩
  · rename_i h0
    exact ⟨⟨h1.ok, h1.b, fun h => absurd h h0, h1.at_⟩, fun h => absurd h h0, fun _ => rfl⟩

theorem Rd.int_keep {r r' : Rd} {v lo hi : Int} (e : r.int lo hi = (v, r')) (ok : r.ok) : r'.ok ∧ r'.b = r.b := by
  have h := (r.int_eats lo hi).1
  rw [e] at h
  exact ⟨h.ok ok, h.b⟩

theorem Rd.bytes_eats (r : Rd) (most : Int) : Eats r (r.bytes most).2 (wI ((r.bytes most).1.length) ++ (r.bytes most).1) ∧ ((r.bytes most).2.e = 0 → ((r.bytes most).1.length : Int) ≤ most) := by
  obtain ⟨h1, h2, h3⟩ := r.int_eats 0 most
  obtain ⟨g1, g2, _⟩ := (r.int 0 most).2.take_eats (r.int 0 most).1.toNat
  have h := h1.trans g1
  unfold Rd.bytes
  refine ⟨⟨h.ok, h.b, fun he => ?_, h.at_⟩, fun he => ?_⟩
  · obtain ⟨e1, e2⟩ := h.e he
    have hb := h2 (g1.e he).1
    have hl := g2 he
    refine ⟨e1, ?_⟩
    rw [e2]
    congr 3
    rw [hl]; omega
  · have hb := h2 (g1.e he).1
    have hl := g2 he
    rw [hl]; omega

theorem Rd.flag_eats (r : Rd) : Eats r r.flag.2 [wF r.flag.1] := by
  obtain ⟨h1, h2, _⟩ := r.take_eats 1
  unfold Rd.flag
  split
  · rename_i h0
    split
    · rename_i hb
      refine ⟨h1.ok, h1.b, fun he => ⟨(h1.e he).1, ?_⟩, h1.at_⟩
      rw [(h1.e he).2]
      congr 1
      obtain ⟨x, hx⟩ : ∃ x, (r.take 1).1 = [x] := by
        match hq : (r.take 1).1, h2 h0 with
        | [x], _ => exact ⟨x, rfl⟩
      rw [hx] at hb ⊢
      simp at hb ⊢
      by_cases e1 : x.toNat = 1
      · simp [e1, wF]; exact UInt8.toNat.inj e1
      · have : x.toNat = 0 := by omega
        simp [this, wF]; exact UInt8.toNat.inj this
    · exact ⟨fun h => ⟨(h1.ok h).1, .inr (.inl rfl)⟩, h1.b, fun h => by simp at h, h1.at_⟩
  · rename_i h0
    exact ⟨h1.ok, h1.b, fun h => absurd h h0, h1.at_⟩

end Go.Proofs.Rv
