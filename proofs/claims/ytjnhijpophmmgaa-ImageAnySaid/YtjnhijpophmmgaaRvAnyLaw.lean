/- For every input the law ImageAny returns true, and the input reads behind the call as it read before. No condition. -/
import Derived.Test.YtjnhijpophmmgaaRows
import Derived.Test.YtjnhijpophmmgaaRvAny
import Derived.WalkKit
import Derived.ProofKit
import Derived.OpenShut
import Derived.ShutString
import Derived.ChangeOld
import Derived.Below
import Derived.SizedLaws
import Derived.Carry
set_option linter.unusedVariables false
set_option linter.unusedSimpArgs false
namespace Go.Proofs.Ytjnhijpophmmgaa
open Go Go.Proofs.Rv
namespace imageAny
open Go.ChangeShapes Go.WideShapes Go.ChangeAt Go.RowKit
open Go.ChangeMaps (open_string shut_string)
set_option linter.unusedVariables false
theorem own : ownKnob Try.prog.godebug = none := by kernel_rfl
theorem laidOut : laidOutB Try.prog = true := by kernel_rfl
def IsRow (k : IntKind) (w : World) (a : Option Addr) (len cap : Nat) (zs : List Int) : Prop :=
  (a = none ∧ len = 0 ∧ cap = 0 ∧ zs = []) ∨
  ∃ x, a = some x ∧ len ≤ cap ∧ cap ≤ maxLen ∧ zs.length = cap ∧ (∀ i, i < zs.length → w.cell? (x.add i) = some (.int k (zs.getD i 0))) ∧ ∀ n ∈ zs, (Lit.int k n).wf = true

theorem byte_of {n : Int} (h : (Lit.int .u8 n).wf = true) : ((UInt8.ofNat n.toNat).toNat : Int) = n := by
  have h1 : 0 ≤ n ∧ n ≤ 255 := by
    have e1 : IntKind.u8.min = 0 := by decide
    have e2 : IntKind.u8.max = 255 := by decide
    simp only [Lit.wf, e1, e2, Bool.and_eq_true, decide_eq_true_eq] at h
    exact h
  rw [UInt8.toNat_ofNat']
  omega

theorem va_row {N : Nat} {m : Nat → Option Blk} {W : World} {a : Option Addr} {len cap : Nat} {zs : List Int} (h : IsRow .u8 W a len cap zs) : ∃ x : List UInt8, VA N (fun b => b < W.heap.size) m (fun _ => none) W (.d (BL x)) (.slice a len cap) := by
  rcases h with ⟨rfl, rfl, rfl, rfl⟩ | ⟨x, rfl, h1, h2, h3, h4, h5⟩
  · exact ⟨[], .d .lst0⟩
  · refine ⟨(zs.take len).map fun n => UInt8.ofNat n.toNat, ?_⟩
    have hl : ((zs.take len).map fun n => UInt8.ofNat n.toNat).length = len := by simp; omega
    unfold BL
    rw [hl]
    have hg : ∀ (i : Nat) (y : FV), (u8s ((zs.take len).map fun n => UInt8.ofNat n.toNat))[i]? = some y → i < zs.length ∧ y = .int .u8 (zs.getD i 0) := fun i y hy => by
      simp only [u8s, List.getElem?_map] at hy
      cases e : (zs.take len)[i]? with
      | none => rw [e] at hy; cases hy
      | some n =>
        rw [e] at hy
        rw [List.getElem?_take] at e
        split at e
        · obtain ⟨hi, hn⟩ := List.getElem?_eq_some_iff.1 e
          refine ⟨hi, ?_⟩
          have hy' : FV.int .u8 ((UInt8.ofNat n.toNat).toNat : Int) = y := Option.some.inj hy
          rw [← hy', List.getD_eq_getElem?_getD, e, byte_of (h5 n (hn ▸ List.getElem_mem hi))]
          rfl
        · cases e
    refine .d (.lst len _ x cap (fun i => .int .u8 (zs.getD i 0)) h1 (fun hne => ?_) (fun i y hy => h4 i (hg i y hy).1) (fun i y hy => by rw [(hg i y hy).2]; exact .int _ _))
    have h0 : 0 < zs.length := by
      rcases Nat.eq_zero_or_pos zs.length with h | h
      · exact absurd (by rw [List.eq_nil_of_length_eq_zero h]; simp [u8s]) hne
      · exact h
    have hc := h4 0 h0
    exact World.block_lt_of_cell? _ _ hc

theorem walk (W : World) (a : Option Addr) (len cap : Nat) (zs : List Int) (h : IsRow .u8 W a len cap zs) : Calls Try.prog 3 #[.slice a len cap] W fun e W' => e = .returned (.bool true) ∧ Below W.heap.size W W' := by
  obtain ⟨x, hx⟩ := va_row (N := 0) (m := fun _ => none) h
  have hc := (any_c x (fun _ => none) (fun r _ => r = .d (.bool true)) rfl).2 0 (fun b => b < W.heap.size) (fun _ => none) W #[.slice a len cap]
    ⟨fun _ _ => rfl, fun _ _ h => (by cases h), fun _ _ _ _ h => (by cases h), fun _ h => h⟩ rfl (fun i y v hy hv => by
      match i with
      | 0 => simp at hy hv; subst hy hv; exact hx
      | _ + 1 => simp at hy)
  refine hc.mono fun e W' ⟨v, r, h', N', Z', m', h1, h2, h3, h4, h5, h6⟩ => ?_
  subst h2
  cases h5; rename_i h5; cases h5
  exact ⟨h1, ⟨h6.os, h6.tape, h6.output, h6.sz, fun k hk => h6.fr k hk (.inl hk)⟩⟩

set_option maxRecDepth 100000 in
theorem lifted (os : Os) (started : os.Started) (H : Type) (enc : TypeId × Value → H) :
    ReturnsInHanded {} Try.checked os 3 .any (Rows.imageAnySpec.pre6 enc Try.prog Try.f3 Rows.imageAnyRow.domain false) (Rows.imageAnySpec.post enc Try.prog Try.f3 false true false false) := by
  refine returnsInHanded_of_change_sized (C := Try.checked) own started (by kernel_rfl) Try.func3
    (ChangeSpec.witness6 (enc := enc) (C := Try.checked) false ⟨#[], #[.slice none 0 0], []⟩ 8 (by kernel_rfl) (by kernel_rfl) (by kernel_rfl) (by kernel_rfl)) ?_
  intro W base args ds gs before hval0 hW hcnd hsz0 _
  have hval : ∀ (j : Nat) t v, Try.f3.params[j]? = some t → args[j]? = some v → Value.okWide Try.prog W .any base t v := hval0
  have hW' := hW
  obtain ⟨p, q, hA0, hV, rfl, hfz, hnd⟩ := hW
  have hA : DataW.TrodAll enc Try.prog W 0 (fun _ => true) true Try.f3.params.toList args.toList ds p := hA0
  rw [Try.params3] at hA hval
  obtain ⟨v0, vs0, d0, ds0, p0, q0, hargs, rfl, rfl, h0, r0⟩ := trodAll_cons hA
  obtain ⟨rfl, rfl, rfl⟩ := trodAll_nil r0
  obtain rfl : args = #[v0] := by cases args; simp_all
  obtain ⟨rfl, rfl⟩ := trodVars_none hV
  obtain ⟨a0, len0, cap0, rfl⟩ := okWide_slice Try.underlying22 (hval 0 22 v0 rfl rfl)
  have k0 := h0
  have lt0 : ∀ x ∈ p0, x.block < W.heap.size := by obtain ⟨m, hm⟩ := k0; exact DataW.trod_lt m _ _ _ hm
  obtain ⟨z0, w0⟩ : ∃ zs, IsRow .u8 W a0 len0 cap0 zs := by
    obtain ⟨fuel, hf⟩ := h0
    rcases open_ints Try.underlying22 Try.underlying5 (by kernel_rfl) hf with ⟨hcs, _⟩ | ⟨x, l, c, zs, hcs, _, hl, hm, hz, _, hcell, hwz⟩
    · simp [Value.cells] at hcs
      obtain ⟨rfl, rfl, rfl⟩ := hcs
      exact ⟨[], .inl ⟨rfl, rfl, rfl, rfl⟩⟩
    · simp [Value.cells] at hcs
      obtain ⟨rfl, rfl, rfl⟩ := hcs
      exact ⟨zs, .inr ⟨_, rfl, hl, hm, by simpa using hz, hcell, hwz⟩⟩
  clear hA0 hval0 hsz0
  refine (walk W a0 len0 cap0 z0 w0).mono fun e W' ⟨he, bel⟩ => ?_
  subst he
  exact ⟨_, rfl, _, _, _, [], _, [], hW', trodAll_mk1 (shut_bool Try.underlying4 _), (trodAll_cons_mk (Below.trod laidOut (by kernel_rfl) (of_decide_eq_true (by kernel_rfl)) k0 bel lt0) trodAll_mk0), rfl, bel.frame _, fun h => by cases h⟩
theorem over : Rows.imageAnyRow.holds Try.pinned (OpenSpec.ofChange Rows.imageAnySpec) :=
  OpenClaim.holds_of_wide 3 Try.f3 rfl rfl rfl rfl rfl rfl rfl ⟨rfl, rfl, rfl, rfl, rfl⟩ rfl rfl rfl rfl rfl (by kernel_rfl) Try.func3 (by kernel_rfl)
    (of_decide_eq_true (by kernel_rfl)) (by unfold Func.isWrapper; first | (rw [if_pos (by decide +kernel)]; kernel_rfl) | (rw [if_neg (by decide +kernel)]; exact ⟨rfl, rfl⟩))
    (fun os started H enc _ => lifted os started H enc)
end imageAny
/-- The row. -/
theorem imageAny_holds : Rows.ImageAnySaid := imageAny.over
end Go.Proofs.Ytjnhijpophmmgaa
