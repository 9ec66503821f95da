/- RvYld2: fields, elements, slices, lengths, conversions, literals. -/
import Derived.Test.YtjnhijpophmmgaaRvYld
import Derived.KernelRfl
set_option linter.unusedVariables false
set_option linter.unusedSimpArgs false
namespace Go.Proofs.Rv
open Go

def nthK {α : Type} : List α → Nat → (α → Prop) → Prop
  | [], _, _ => False
  | x :: _, 0, k => k x
  | _ :: xs, n + 1, k => nthK xs n k

theorem nthK_ok {α : Type} : ∀ {xs : List α} {n : Nat} {k : α → Prop}, nthK xs n k → ∃ x, xs[n]? = some x ∧ k x
  | [], _, _, h => h.elim
  | x :: _, 0, k, h => ⟨x, rfl, h⟩
  | _ :: xs, n + 1, k, h => by
    obtain ⟨x, h1, h2⟩ := nthK_ok (xs := xs) (n := n) h
    exact ⟨x, by simpa using h1, h2⟩

theorem add_addr (a : Addr) (n i : Nat) : (a.add n).add i = a.add (n + i) := by
  unfold Addr.add
  by_cases h1 : n = 0
  · subst h1; simp
  · by_cases h2 : i = 0
    · subst h2; simp [h1]
    · simp [h1, h2, Nat.add_assoc]

def addOff (x : AV) (n : Nat) (k : AV → Prop) : Prop :=
  match x with
  | .lp u o => k (.lp u (o + n))
  | .d (.ptr o f) => k (.d (.ptr o (f + n)))
  | .d (.fptr cs f) => k (.d (.fptr cs (f + n)))
  | _ => False

def fieldAddrA (L : LE) (t i : Nat) (x : AV) (k : AV → Prop) : Prop :=
  match L t with
  | none => False
  | some l => match l.d with
    | .st fs => nthK fs i fun f => match f with
      | (fo, ft) => match L ft with
        | none => False
        | some lf => match Nat.beq lf.size 0 with
          | true => False
          | false => addOff x fo k
    | _ => False

def fieldA (L : LE) (t i : Nat) (x : AV) (k : AV → Prop) : Prop :=
  match L t with
  | none => False
  | some l => match l.d with
    | .st fs => nthK fs i fun f => match f with
      | (fo, ft) => match L ft with
        | none => False
        | some lf => match x with
          | .agg cs => subK cs fo lf.size fun ys => wrapA lf ys k
          | _ => False
    | _ => False

def indexAddrA0 (L : LE) (t : Nat) (x i : AV) (k : AV → Prop) : Prop :=
  match L t with
  | none => False
  | some l => match l.d with
    | .slc e => match L e with
      | none => False
      | some le => asI i fun _ j => match x with
        | .d (.lst n cs) => Rq (0 ≤ j ∧ j < n) (k (.d (.fptr cs (j.toNat * le.size))))
        | .d (.ref o off n) => Rq (0 ≤ j ∧ j < n) (k (.d (.ptr o (off + j.toNat * le.size))))
        | .d (.acc c n) => Rq (0 ≤ j ∧ j < n) (k (.d (.ptr (c.getD 0) (j.toNat * le.size))))
        | _ => False
    | _ => False
def indexAddrA (L : LE) (t : Nat) (x i : AV) (k : AV → Prop) : Prop :=
  match L t with
  | none => False
  | some ⟨lsz, lby, lz, ld, leq⟩ => match ld with
    | .slc e => match L e with
      | none => False
      | some ⟨esz, eby, ez, ed, eeq⟩ => asI i fun _ j => match x with
        | .d (.lst n cs) => Rq (0 ≤ j ∧ j < n) (k (.d (.fptr cs (j.toNat * esz))))
        | .d (.ref o off n) => Rq (0 ≤ j ∧ j < n) (k (.d (.ptr o (off + j.toNat * esz))))
        | .d (.acc c n) => Rq (0 ≤ j ∧ j < n) (k (.d (.ptr (c.getD 0) (j.toNat * esz))))
        | _ => False
    | _ => False
theorem indexAddrA_old (L : LE) (t : Nat) (x i : AV) (k : AV → Prop) (hx_ : indexAddrA L t x i k) : indexAddrA0 L t x i k := by
  have e : (indexAddrA L t x i k) = (indexAddrA0 L t x i k) := by kernel_rfl
  exact e ▸ hx_

def indexStrA (L : LE) (t : Nat) (x i : AV) (k : AV → Prop) : Prop :=
  match L t with
  | none => False
  | some l => match l.d with
    | .str => asI i fun _ j => match x with
      | .d (.str s) => Rq (0 ≤ j ∧ j < s.size) (k (.d (.int .u8 ((s.data.toList.getD j.toNat 0).toNat : Int))))
      | _ => False
    | _ => False

def lenA (L : LE) (t : Nat) (x : AV) (k : AV → Prop) : Prop :=
  match L t with
  | none => False
  | some l => match l.d with
    | .str => match x with
      | .d (.str s) => k (.d (.int .i64 (s.size : Int)))
      | _ => False
    | .slc _ => match x with
      | .d (.lst n _) => k (.d (.int .i64 (n : Int)))
      | .d (.ref _ _ n) => k (.d (.int .i64 (n : Int)))
      | .d (.acc _ n) => k (.d (.int .i64 (n : Int)))
      | .d .nils => k (.d (.int .i64 0))
      | _ => False
    | _ => False

def capA (L : LE) (t : Nat) (x : AV) (k : AV → Prop) : Prop :=
  match L t with
  | none => False
  | some l => match l.d with
    | .slc _ => match x with
      | .d .nils => k (.d (.int .i64 0))
      | _ => False
    | _ => False

section
variable {P : Program} {B0 N : Nat} {Z : Nat → Prop} {m : Nat → Option Blk} {ml : Nat → Option Nat} {w : World} {s : St} {a : Act}

theorem addOff_ok {x : AV} {n : Nat} {k : AV → Prop} {v : Value} (hx : VA N Z m ml w x v) (h : addOff x n k) :
    ∃ r a, k r ∧ v = .pointer (some a) ∧ VA N Z m ml w r (.pointer (some (a.add n))) := by
  unfold addOff at h
  split at h
  · cases hx; rename_i a ha
    exact ⟨_, a, h, rfl, .lp _ _ _ fun b hb => by rw [ha b hb, addr_add]⟩
  · cases hx; rename_i hx; cases hx; rename_i a ho ha
    exact ⟨_, a, h, rfl, .d (.ptr _ _ _ ho fun b hb => by rw [ha b hb, addr_add])⟩
  · cases hx; rename_i hx; cases hx; rename_i a u hz hc hv
    refine ⟨_, a, h, rfl, .d (.fptr _ _ _ (fun i => u (n + i)) ?_ (fun i x hx => ?_) (fun i x hx => ?_))⟩
    · intro hne
      have : (a.add n).block = a.block := by unfold Addr.add; split <;> rfl
      rw [this]; exact hz hne
    · rw [add_addr]; exact hc (n + i) x (by rw [← Nat.add_assoc]; exact hx)
    · exact hv (n + i) x (by rw [← Nat.add_assoc]; exact hx)
  · exact h.elim

theorem st_field {L : LE} (hL : LayOK P L) {t : TypeId} {l : Lay} (hl : L t = some l) {fs : List (Nat × TypeId)} (hd : l.d = .st fs) {i : Nat} {f : Nat × TypeId} (hf : fs[i]? = some f) :
    ∃ A F, P.underlying t = some (.struct A) ∧ A[i]? = some F ∧ F.offset = f.1 ∧ F.type = f.2 := by
  have h := hL.desc t l hl
  rw [hd] at h
  obtain ⟨A, hA, hm⟩ := h
  rw [← hm, List.getElem?_map] at hf
  cases hq : A.toList[i]? with
  | none => rw [hq] at hf; cases hf
  | some F =>
    rw [hq] at hf
    simp at hf
    exact ⟨A, F, hA, by simpa using hq, by rw [← hf], by rw [← hf]⟩

theorem fieldAddrA_ok {L : LE} (hL : LayOK P L) {t i : Nat} {x : AV} {v : Value} {k : AV → Prop} (hx : VA N Z m ml w x v) (h : fieldAddrA L t i x k) :
    ∃ r v', k r ∧ VA N Z m ml w r v' ∧ ∀ w' : World, (Instr.fieldAt t v i).run P w' = .ok v' w' := by
  unfold fieldAddrA at h
  split at h
  · exact h.elim
  · rename_i l hl
    split at h
    · rename_i fs hd
      obtain ⟨⟨fo, ft⟩, hf, h⟩ := nthK_ok h
      simp only at h
      split at h
      · exact h.elim
      · rename_i lf hlf
        split at h
        · exact h.elim
        · rename_i hz
          obtain ⟨A, F, h1, h2, h3, h4⟩ := st_field hL hl hd hf
          obtain ⟨r, a, h5, rfl, h6⟩ := addOff_ok hx h
          have hs : ∀ w' : World, (sizeOf F.type).run P w' = .ok lf.size w' := fun w' => by rw [h4]; exact run_size hL hlf
          have hz' : lf.size ≠ 0 := by intro e; rw [e] at hz; cases hz
          exact ⟨r, _, h5, h6, fun w' => by simp [Instr.fieldAt, run_underlying h1, h2, Instr.sureAddr, fieldPlace, hs, hz', h3]⟩
    · exact h.elim

theorem fieldA_ok {L : LE} (hL : LayOK P L) {t i : Nat} {x : AV} {v : Value} {k : AV → Prop} (hx : VA N Z m ml w x v) (h : fieldA L t i x k) :
    ∃ r v', k r ∧ VA N Z m ml w r v' ∧ ∀ w' : World, (Instr.field t v i).run P w' = .ok v' w' := by
  unfold fieldA at h
  split at h
  · exact h.elim
  · rename_i l hl
    split at h
    · rename_i fs hd
      obtain ⟨⟨fo, ft⟩, hf, h⟩ := nthK_ok h
      simp only at h
      split at h
      · exact h.elim
      · rename_i lf hlf
        split at h
        · obtain ⟨A, F, h1, h2, h3, h4⟩ := st_field hL hl hd hf
          cases hx; rename_i vs hs hv
          obtain ⟨h5, h6⟩ := subK_ok h
          obtain ⟨r, v', h7, h8, h9⟩ := part_core (ml := ml) hL hlf hs hv h5 h6
          simp only at h3 h4
          rw [← h4, ← h3] at h9
          exact ⟨r, v', h7, h8, fun w' => by simp [Instr.field, run_underlying h1, h2, asAgg, h9]⟩
        · exact h.elim
    · exact h.elim

theorem indexAddrA_ok {L : LE} (hL : LayOK P L) {t : Nat} {x i : AV} {v vi : Value} {k : AV → Prop} (hx : VA N Z m ml w x v) (hi : VA N Z m ml w i vi) (h : indexAddrA L t x i k) :
    ∃ r v', k r ∧ VA N Z m ml w r v' ∧ ∀ w' : World, (Instr.indexAt t v vi).run P w' = .ok v' w' := by
  replace h := indexAddrA_old _ _ _ _ _ h
  unfold indexAddrA0 at h
  split at h
  · exact h.elim
  · rename_i l hl
    split at h
    · rename_i e hd
      split at h
      · exact h.elim
      · rename_i le hle
        obtain ⟨ka, j, rfl, h⟩ := asI_ok hi h
        have hu := hL.desc t l hl
        rw [hd] at hu
        have hs : ∀ w' : World, (sizeOf e).run P w' = .ok le.size w' := fun w' => run_size hL hle
        split at h
        · rename_i n cs _
          obtain ⟨⟨h0, h1⟩, h⟩ := h.get
          cases hx; rename_i hx
          rcases hx.lst_inv with ⟨_, rfl, _⟩ | ⟨a, cap, u, rfl, hn, hz, hc, hv⟩
          · omega
          have hrun : ∀ w' : World, (Instr.indexAt t (.slice (some a) n cap) (.int ka j)).run P w' = .ok (.pointer (some (a.add (j.toNat * le.size)))) w' := fun w' => by
            simp [Instr.indexAt, asIntOf, run_underlying hu, h0, h1, hs]
          refine ⟨_, _, h, .d (.fptr _ _ _ (fun i => u (j.toNat * le.size + i)) ?_ (fun i x hx => ?_) (fun i x hx => ?_)), hrun⟩
          · intro hne
            have : (a.add (j.toNat * le.size)).block = a.block := by unfold Addr.add; split <;> rfl
            rw [this]; exact hz hne
          · rw [add_addr]; exact hc _ x hx
          · exact hv _ x hx
        · rename_i o off n _
          cases hx; rename_i hx; cases hx; rename_i a cap ho ha hn
          obtain ⟨⟨h0, h1⟩, h⟩ := h.get
          have hrun : ∀ w' : World, (Instr.indexAt t (.slice (some a) n cap) (.int ka j)).run P w' = .ok (.pointer (some (a.add (j.toNat * le.size)))) w' := fun w' => by
            simp [Instr.indexAt, asIntOf, run_underlying hu, h0, h1, hs]
          refine ⟨_, _, h, .d (.ptr _ _ _ ho fun b hb => ?_), hrun⟩
          rw [(ha b hb).1 (.inl (by omega)), addr_add]
        · rename_i c n _
          obtain ⟨⟨h0, h1⟩, h⟩ := h.get
          cases hx; rename_i hx; cases hx
          · omega
          · rename_i o hx; cases hx; rename_i a cap ho ha hn
            have hrun : ∀ w' : World, (Instr.indexAt t (.slice (some a) n cap) (.int ka j)).run P w' = .ok (.pointer (some (a.add (j.toNat * le.size)))) w' := fun w' => by
              simp [Instr.indexAt, asIntOf, run_underlying hu, h0, h1, hs]
            refine ⟨_, _, h, .d (.ptr _ _ _ ho fun b hb => ?_), hrun⟩
            rw [(ha b hb).1 (.inl (by omega)), addr_add, Nat.zero_add]
        · exact h.elim
    · exact h.elim

theorem indexStrA_ok {L : LE} (hL : LayOK P L) {t : Nat} {x i : AV} {v vi : Value} {k : AV → Prop} (hx : VA N Z m ml w x v) (hi : VA N Z m ml w i vi) (h : indexStrA L t x i k) :
    ∃ r v', k r ∧ VA N Z m ml w r v' ∧ ∀ w' : World, (Instr.index t v vi).run P w' = .ok v' w' := by
  unfold indexStrA at h
  split at h
  · exact h.elim
  · rename_i l hl
    split at h
    · rename_i hd
      obtain ⟨ka, j, rfl, h⟩ := asI_ok hi h
      have hu := hL.desc t l hl
      rw [hd] at hu
      split at h
      · rename_i s' _
        cases hx; rename_i hx; cases hx
        obtain ⟨⟨h0, h1⟩, h⟩ := h.get
        have hj : j.toNat < s'.data.size := by have : s'.size = s'.data.size := rfl; omega
        refine ⟨_, _, h, .d (.int _ _), ?_⟩
        have e : s'[j.toNat]? = some s'.data[j.toNat] := by
          have hj' : j.toNat < s'.size := hj
          rw [getElem?_pos s' j.toNat hj']; rfl
        have e2 : s'.data.toList.getD j.toNat 0 = s'.data[j.toNat] := by simp [List.getD, Array.getElem?_eq_getElem hj]
        rw [e2]
        intro w'
        simp [Instr.index, asIntOf, run_underlying hu, h0, e]
      · exact h.elim
    · exact h.elim

theorem capA_ok {L : LE} (hL : LayOK P L) {t ty : Nat} {x : AV} {v : Value} {k : AV → Prop} (hx : VA N Z m ml w x v) (h : capA L t x k) :
    ∃ r v', k r ∧ VA N Z m ml w r v' ∧ ∀ w' : World, (Builtin.cap_ #[t] ty #[v]).run P w' = .ok v' w' := by
  unfold capA at h
  split at h
  · exact h.elim
  · rename_i l hl
    have hu := hL.desc t l hl
    split at h
    · rename_i e hd
      rw [hd] at hu
      split at h
      · cases hx; rename_i hx; cases hx
        exact ⟨_, _, h, .d (.int _ _), fun w' => by simp [Builtin.cap_, run_underlying hu, goInt]⟩
      · exact h.elim
    · exact h.elim

theorem lenA_ok {L : LE} (hL : LayOK P L) {t ty : Nat} {x : AV} {v : Value} {k : AV → Prop} (hx : VA N Z m ml w x v) (h : lenA L t x k) :
    ∃ r v', k r ∧ VA N Z m ml w r v' ∧ ∀ w' : World, (Builtin.len_ #[t] ty #[v]).run P w' = .ok v' w' := by
  unfold lenA at h
  split at h
  · exact h.elim
  · rename_i l hl
    have hu := hL.desc t l hl
    split at h
    · rename_i hd
      rw [hd] at hu
      split at h
      · cases hx; rename_i hx; cases hx
        exact ⟨_, _, h, .d (.int _ _), fun w' => by simp [Builtin.len_, run_underlying hu, goInt]⟩
      · exact h.elim
    · rename_i e hd
      rw [hd] at hu
      split at h
      · cases hx; rename_i hx
        obtain ⟨a, c, rfl, _⟩ := hx.lst_sl
        exact ⟨_, _, h, .d (.int _ _), fun w' => by simp [Builtin.len_, run_underlying hu, goInt]⟩
      · cases hx; rename_i hx; cases hx
        exact ⟨_, _, h, .d (.int _ _), fun w' => by simp [Builtin.len_, run_underlying hu, goInt]⟩
      · cases hx; rename_i hx
        obtain ⟨a, c, rfl, _⟩ := hx.acc_sl
        exact ⟨_, _, h, .d (.int _ _), fun w' => by simp [Builtin.len_, run_underlying hu, goInt]⟩
      · cases hx; rename_i hx; cases hx
        exact ⟨_, _, h, .d (.int _ _), fun w' => by simp [Builtin.len_, run_underlying hu, goInt]⟩
      · exact h.elim
    · exact h.elim

end

end Go.Proofs.Rv
