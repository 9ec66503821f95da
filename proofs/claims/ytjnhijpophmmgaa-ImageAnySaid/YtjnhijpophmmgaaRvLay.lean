/- RvLay: a table of types, and a check that it says what the program says. -/
import Derived.Test.YtjnhijpophmmgaaRvFun
set_option linter.unusedVariables false
set_option linter.unusedSimpArgs false
namespace Go.Proofs.Rv
open Go

inductive Tr where
  | leaf
  | node (k : Nat) (v : Lay) (l r : Tr)

def Tr.get : Tr → Nat → Option Lay
  | .leaf, _ => none
  | .node k v l r, t => match Nat.beq t k with
    | true => some v
    | false => match Nat.ble t k with
      | true => l.get t
      | false => r.get t

def Tr.all (p : Nat → Lay → Bool) : Tr → Bool
  | .leaf => true
  | .node k v l r => p k v && l.all p && r.all p

theorem Tr.all_get {p : Nat → Lay → Bool} : ∀ {T : Tr} {t : Nat} {v : Lay}, T.all p = true → T.get t = some v → p t v = true
  | .leaf, _, _, _, h => by cases h
  | .node k x l r, t, v, ha, h => by
    simp only [Tr.all, Bool.and_eq_true] at ha
    simp only [Tr.get] at h
    split at h
    · rename_i e
      have : t = k := Nat.eq_of_beq_eq_true e
      subst this; cases h; exact ha.1.1
    · split at h
      · exact Tr.all_get ha.1.2 h
      · exact Tr.all_get ha.2 h

def eqV : Value → FV → Bool
  | .int k n, .int k' n' => decide (k = k') && decide (n = n')
  | .bool b, .bool b' => b == b'
  | .string s, .str s' => Nat.beq s.size 0 && Nat.beq s'.size 0
  | .pointer none, .nilp => true
  | .slice none 0 0, .nils => true
  | .nilFunc, .nilf => true
  | .nilIface, .nili => true
  | _, _ => false

theorem eqV_ok {v : Value} {x : FV} (h : eqV v x = true) : v = x.val0 ∧ x.plain = true := by
  unfold eqV at h
  split at h <;> first | (cases h; done) | skip
  · simp at h; obtain ⟨rfl, rfl⟩ := h; exact ⟨rfl, rfl⟩
  · simp at h; subst h; exact ⟨rfl, rfl⟩
  · rename_i s s'
    simp only [Bool.and_eq_true] at h
    have h1 := Nat.eq_of_beq_eq_true h.1
    have h2 := Nat.eq_of_beq_eq_true h.2
    refine ⟨?_, rfl⟩
    have e : ∀ b : ByteArray, b.size = 0 → b = ByteArray.empty := fun b hb => by
      cases b with
      | mk d => have : d = #[] := Array.eq_empty_of_size_eq_zero hb
                subst this; rfl
    simp only [FV.val0]
    rw [e s h1, e s' h2]
  · exact ⟨rfl, rfl⟩
  · exact ⟨rfl, rfl⟩
  · exact ⟨rfl, rfl⟩
  · exact ⟨rfl, rfl⟩

def eqVs : List Value → List FV → Bool
  | [], [] => true
  | v :: vs, x :: xs => eqV v x && eqVs vs xs
  | _, _ => false

theorem eqVs_ok : ∀ {vs : List Value} {xs : List FV}, eqVs vs xs = true → vs = xs.map FV.val0 ∧ xs.all FV.plain = true
  | [], [], _ => ⟨rfl, rfl⟩
  | v :: vs, x :: xs, h => by
    simp only [eqVs, Bool.and_eq_true] at h
    obtain ⟨h1, h2⟩ := eqV_ok h.1
    obtain ⟨h3, h4⟩ := eqVs_ok h.2
    exact ⟨by simp [h1, h3], by simp [h2]; simpa using h4⟩
  | [], _ :: _, h => by cases h
  | _ :: _, [], h => by cases h

def eqFs : List (Nat × TypeId) → List (Nat × TypeId) → Bool
  | [], [] => true
  | (a, b) :: xs, (c, d) :: ys => Nat.beq a c && Nat.beq b d && eqFs xs ys
  | _, _ => false

theorem eqFs_ok : ∀ {xs ys : List (Nat × TypeId)}, eqFs xs ys = true → xs = ys
  | [], [], _ => rfl
  | (a, b) :: xs, (c, d) :: ys, h => by
    simp only [eqFs, Bool.and_eq_true] at h
    obtain ⟨⟨h1, h2⟩, h3⟩ := h
    rw [Nat.eq_of_beq_eq_true h1, Nat.eq_of_beq_eq_true h2, eqFs_ok h3]
  | [], _ :: _, h => by cases h
  | _ :: _, [], h => by cases h

def descChk (P : Program) (d : Option TypeDesc) (x : LD) : Bool :=
  match d, x with
  | some (.int k), .int k' => decide (k = k')
  | some .bool, .bool => true
  | some .string, .str => true
  | some (.pointer e), .ptr => match P.info? e with
    | some i => !(Nat.beq i.size 0)
    | none => false
  | some (.slice e), .slc e' => Nat.beq e e'
  | some (.struct a), .st fs => eqFs (a.toList.map fun f => (f.offset, f.type)) fs
  | some (.func _ _ _), .fn => true
  | _, _ => false

def isAggV : Value → Bool
  | .agg _ => true
  | _ => false

def fieldsChk (T : Tr) : List (Nat × TypeId) → Bool
  | [] => true
  | (_, t) :: fs => (T.get t).isSome && fieldsChk T fs

/-- Fields of one cell each that are numbers or truths, in a row. -/
def eqFChk (P : Program) : List Field → List Bool → Nat → Bool
  | [], [], _ => true
  | f :: fs, g :: gs, off => Nat.beq f.offset off && !(decide (f.name = "_")) && (match g, P.underlying f.type with | true, some (.int _) => true | false, some .bool => true | _, _ => false) && eqFChk P fs gs (off + 1)
  | _, _, _ => false

def eqChk (P : Program) (t : Nat) (gs : List Bool) : Bool :=
  match gs with
  | [] => true
  | gs => match P.underlying t with
    | some (.struct a) => !(P.stoodInHeld t) && !(P.eqGuardType P.depth t) && eqFChk P a.toList gs 0
    | _ => false

theorem scal_int {x y : Value} {p : Bool} (h : scal true x y = some p) : ∃ k a b, x = .int k a ∧ y = .int k b ∧ p = (a == b) := by
  unfold scal at h
  split at h
  · split at h
    · rename_i hk; simp at hk; subst hk; cases h; exact ⟨_, _, _, rfl, rfl, rfl⟩
    · cases h
  · contradiction
  · cases h

theorem scal_bool {x y : Value} {p : Bool} (h : scal false x y = some p) : ∃ a b, x = .bool a ∧ y = .bool b ∧ p = (a == b) := by
  unfold scal at h
  split at h
  · contradiction
  · cases h; exact ⟨_, _, rfl, rfl, rfl⟩
  · cases h

theorem eqFields_run {P : Program} (d : Nat) : ∀ (fs : List Field) (gs : List Bool) (off : Nat) (xs ys : List Value) (b : Bool) (w : World), eqFChk P fs gs off = true → scals gs (xs.drop off) (ys.drop off) = some b →
    (Op.eqFields (d + 1) xs.toArray ys.toArray fs).run P w = .ok b w
  | [], [], off, xs, ys, b, w, _, h => by
    cases hx : xs.drop off with
    | cons _ _ => rw [hx] at h; cases hy : ys.drop off <;> rw [hy] at h <;> simp [scals] at h
    | nil =>
      rw [hx] at h
      cases hy : ys.drop off with
      | nil => rw [hy] at h; simp only [scals, Option.some.injEq] at h; subst h; simp [Op.eqFields]
      | cons _ _ => rw [hy] at h; simp [scals] at h
  | [], _ :: _, _, _, _, _, _, hc, _ => by simp [eqFChk] at hc
  | _ :: _, [], _, _, _, _, _, hc, _ => by simp [eqFChk] at hc
  | f :: fs, g :: gs, off, xs, ys, b, w, hc, h => by
    simp only [eqFChk, Bool.and_eq_true, Bool.not_eq_true', decide_eq_false_iff_not] at hc
    obtain ⟨⟨⟨c1, c2⟩, c3⟩, c4⟩ := hc
    have c1 := Nat.eq_of_beq_eq_true c1
    have hx : off < xs.length := by
      rcases Nat.lt_or_ge off xs.length with h' | h'
      · exact h'
      · rw [List.drop_eq_nil_of_le h'] at h; simp [scals] at h
    have hy0 : off < ys.length := by
      rcases Nat.lt_or_ge off ys.length with h' | h'
      · exact h'
      · rw [List.drop_eq_nil_of_le h', List.drop_eq_getElem_cons hx] at h; simp [scals] at h
    rw [List.drop_eq_getElem_cons hx, List.drop_eq_getElem_cons hy0] at h
    simp only [scals] at h
    split at h
    · rename_i p q hp hq
      cases h
      have ih := eqFields_run d fs gs (off + 1) xs ys q w c4 hq
      have hag : (isAgg f.type).run P w = .ok false w := by
        split at c3
        · rename_i e; simp [isAgg, run_underlying e]
        · rename_i e; simp [isAgg, run_underlying e]
        · cases c3
      have h1 : (part f.type xs.toArray f.offset).run P w = .ok xs[off] w := by
        simp only [part, Sem.run_bind, hag, Result.andThen_ok, c1]
        simp [hx]
      have h2 : (part f.type ys.toArray f.offset).run P w = .ok ys[off] w := by
        simp only [part, Sem.run_bind, hag, Result.andThen_ok, c1]
        simp [hy0]
      have h3 : (Op.equalIn (d + 1) f.type xs[off] ys[off]).run P w = .ok p w := by
        generalize xs[off] = x at hp ⊢
        generalize ys[off] = y at hp ⊢
        split at c3
        · rename_i e
          obtain ⟨k, a, b, rfl, rfl, rfl⟩ := scal_int hp
          exact run_equalIn_int w d f.type _ _ _ _ e
        · rename_i e
          obtain ⟨a, b, rfl, rfl, rfl⟩ := scal_bool hp
          exact run_equalIn_bool' w d f.type _ _ e
        · cases c3
      simp only [Op.eqFields, if_pos c2, Sem.run_bind, h1, h2, h3, Result.andThen_ok]
      cases p
      · simp
      · simpa using ih
    · cases h

theorem eqChk_ok {P : Program} {t : Nat} {gs : List Bool} (h : eqChk P t gs = true) (hg : gs ≠ []) : P.eqGuardType P.depth t = false ∧ ∀ (xs ys : List Value) (b : Bool) (w : World), scals gs xs ys = some b →
    (Op.equalIn 10000 t (.agg xs.toArray) (.agg ys.toArray)).run P w = .ok b w := by
  unfold eqChk at h
  split at h
  · exact absurd rfl hg
  · split at h
    · rename_i a ha
      simp only [Bool.and_eq_true, Bool.not_eq_true'] at h
      obtain ⟨⟨h1, h2⟩, h3⟩ := h
      refine ⟨h2, fun xs ys b w hs => ?_⟩
      have hf : P.fieldsOf t = a := by simp [Program.fieldsOf, ha]
      rw [show (10000 : Nat) = 9998 + 1 + 1 from rfl, run_equalIn_agg w (9998 + 1) t _ _ (by rw [hf]; exact ha) h1, hf]
      exact eqFields_run 9998 a.toList gs 0 xs ys b w h3 (by simpa using hs)
    · cases h

def layChk (P : Program) (T : Tr) (t : Nat) (l : Lay) : Bool :=
  match P.info? t with
  | none => false
  | some i => Nat.beq i.size l.size && Nat.beq i.bytes l.bytes && Nat.beq l.zero.length l.size && descChk P (P.underlying t) l.d && eqChk P t l.eq &&
    (match i.zero with
    | none => false
    | some z => eqVs z.cells.toList l.zero && (match l.d with | .st fs => isAggV z && fieldsChk T fs | _ => Nat.beq l.size 1))

theorem fieldsChk_ok {T : Tr} : ∀ {fs : List (Nat × TypeId)}, fieldsChk T fs = true → ∀ f ∈ fs, ∃ lf, T.get f.2 = some lf
  | [], _, f, hf => by cases hf
  | (a, t) :: fs, h, f, hf => by
    simp only [fieldsChk, Bool.and_eq_true] at h
    rcases List.mem_cons.1 hf with e | e
    · subst e; exact Option.isSome_iff_exists.1 h.1
    · exact fieldsChk_ok h.2 f e

theorem layChk_ok {P : Program} {T : Tr} (h : T.all (layChk P T) = true) : LayOK P T.get ∧ LayOK.Fields T.get := by
  have key : ∀ t l, T.get t = some l → ∃ i z, P.info? t = some i ∧ i.size = l.size ∧ i.bytes = l.bytes ∧ i.zero = some z ∧ l.zero.length = l.size ∧ descChk P (P.underlying t) l.d = true ∧ eqChk P t l.eq = true ∧ eqVs z.cells.toList l.zero = true ∧
      (match l.d with | .st fs => isAggV z && fieldsChk T fs | _ => Nat.beq l.size 1) = true := by
    intro t l hl
    have h1 := Tr.all_get h hl
    unfold layChk at h1
    split at h1
    · cases h1
    · rename_i i hi
      simp only [Bool.and_eq_true] at h1
      obtain ⟨⟨⟨⟨⟨e1, e2⟩, e3⟩, e4⟩, e6⟩, e5⟩ := h1
      split at e5
      · cases e5
      · rename_i z hz
        simp only [Bool.and_eq_true] at e5
        exact ⟨i, z, hi, Nat.eq_of_beq_eq_true e1, Nat.eq_of_beq_eq_true e2, hz, Nat.eq_of_beq_eq_true e3, e4, e6, e5.1, e5.2⟩
  refine ⟨⟨fun t l hl he => ?_, fun t l hl => ?_, fun t l hl => ?_, fun t l hl => ?_, fun t l hl hs => ?_, fun t l hl hs => ?_⟩, fun t l fs hl hd => ?_⟩
  · obtain ⟨i, z, _, _, _, _, _, _, h9, _, _⟩ := key t l hl
    exact eqChk_ok h9 he
  · obtain ⟨i, z, h1, h2, h3, h4, h5, h6, _, h7, h8⟩ := key t l hl
    refine ⟨i, z, h1, h2, h3, h4, ?_⟩
    rw [← (eqVs_ok h7).1, Array.toArray_toList]
  · obtain ⟨i, z, h1, h2, h3, h4, h5, h6, _, h7, h8⟩ := key t l hl
    unfold descChk at h6
    split at h6 <;> first | (cases h6; done) | skip
    · rename_i e1 e2; simp at h6; subst h6; rw [e2]; exact e1
    · rename_i e1 e2; rw [e2]; exact e1
    · rename_i e1 e2; rw [e2]; exact e1
    · rename_i e e1 e2
      rw [e2]
      split at h6
      · rename_i i' hi'
        refine ⟨e, e1, i', hi', fun h0 => ?_⟩
        rw [h0] at h6; cases h6
      · cases h6
    · rename_i e e' e1 e2
      have : e = e' := Nat.eq_of_beq_eq_true h6
      subst this
      rw [e2]; exact e1
    · rename_i a fs e1 e2
      rw [e2]
      exact ⟨a, e1, eqFs_ok h6⟩
    · rename_i e1 e2; rw [e2]; exact ⟨_, _, _, e1⟩
  · obtain ⟨i, z, h1, h2, h3, h4, h5, h6, _, h7, h8⟩ := key t l hl
    exact ⟨(eqVs_ok h7).2, h5⟩
  · obtain ⟨i, z, h1, h2, h3, h4, h5, h6, _, h7, h8⟩ := key t l hl
    unfold LD.isSt at hs
    split at hs
    · rename_i fs e
      rw [e] at h8
      simp only [Bool.and_eq_true] at h8
      cases z <;> first | exact ⟨i, _, h1, h4⟩ | (exact absurd h8.1 (by simp [isAggV]))
    · cases hs
  · obtain ⟨i, z, h1, h2, h3, h4, h5, h6, _, h7, h8⟩ := key t l hl
    have hns : ∀ fs, l.d ≠ .st fs := fun fs e => by rw [e] at hs; cases hs
    refine ⟨?_, ?_⟩
    · split at h8
      · rename_i fs e; exact absurd e (hns fs)
      · exact Nat.eq_of_beq_eq_true h8
    · unfold descChk at h6
      split at h6 <;> first | (cases h6; done) | (rename_i e1 e2; exact ⟨_, e1, rfl⟩) | (rename_i e e1 e2; exact ⟨_, e1, rfl⟩) | (rename_i a b e1 e2; first | exact ⟨_, e1, rfl⟩ | exact absurd e2 (hns _))
  · obtain ⟨i, z, h1, h2, h3, h4, h5, h6, _, h7, h8⟩ := key t l hl
    rw [hd] at h8
    simp only [Bool.and_eq_true] at h8
    exact fieldsChk_ok h8.2

end Go.Proofs.Rv
