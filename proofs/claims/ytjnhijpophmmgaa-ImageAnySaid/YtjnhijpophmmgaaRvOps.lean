/- RvOps: what the operations yield that leave the memory as it is. -/
import Derived.Test.YtjnhijpophmmgaaRvCore
import Derived.Laws.StructEq
import Derived.Laws.Strings
import Derived.Laws.BytesString
set_option linter.unusedVariables false
set_option linter.unusedSimpArgs false
namespace Go.Proofs.Rv
open Go

/-- What is known of a type. -/
inductive LD where
  | int (k : IntKind) | bool | str | ptr | slc (e : TypeId) | st (fs : List (Nat × TypeId)) | fn | oth

structure Lay where
  size : Nat
  bytes : Nat
  zero : List FV
  d : LD
  eq : List Bool := []

abbrev LE := TypeId → Option Lay

def FV.val0 : FV → Value
  | .int k n => .int k n
  | .bool b => .bool b
  | .str s => .string s
  | .nilp => .pointer none
  | .nils => .slice none 0 0
  | .nilf => .nilFunc
  | .nili => .nilIface
  | _ => undef

def FV.plain : FV → Bool
  | .int _ _ | .bool _ | .str _ | .nilp | .nils | .nilf | .nili => true
  | _ => false

theorem VF.of_plain {N : Nat} {Z : Nat → Prop} {m : Nat → Option Blk} {w : World} {x : FV} (h : x.plain = true) : VF N Z m w x x.val0 := by
  cases x <;> first | (simp [FV.plain] at h; done) | constructor

def LD.isSt : LD → Bool
  | .st _ => true
  | _ => false

def LD.ok (P : Program) (t : TypeId) : LD → Prop
  | .int k => P.underlying t = some (.int k)
  | .bool => P.underlying t = some .bool
  | .str => P.underlying t = some .string
  | .ptr => ∃ e, P.underlying t = some (.pointer e) ∧ ∃ i, P.info? e = some i ∧ i.size ≠ 0
  | .slc e => P.underlying t = some (.slice e)
  | .st fs => ∃ a : Array Field, P.underlying t = some (.struct a) ∧ a.toList.map (fun f => (f.offset, f.type)) = fs
  | .fn => ∃ ps rs v, P.underlying t = some (.func ps rs v)
  | .oth => True

/-- Are two cells the same, where that can be seen (numbers, truths)? -/
def scal : Bool → Value → Value → Option Bool
  | true, .int k a, .int k' b => match decide (k = k') with | true => some (a == b) | false => none
  | false, .bool a, .bool b => some (a == b)
  | _, _, _ => none

def scals : List Bool → List Value → List Value → Option Bool
  | [], [], [] => some true
  | g :: gs, x :: xs, y :: ys => match scal g x y, scals gs xs ys with
    | some a, some b => some (a && b)
    | _, _ => none
  | _, _, _ => none

structure LayOK (P : Program) (L : LE) : Prop where
  eqs : ∀ t l, L t = some l → l.eq ≠ [] → P.eqGuardType P.depth t = false ∧ ∀ (xs ys : List Value) (b : Bool) (w : World), scals l.eq xs ys = some b →
    (Op.equalIn 10000 t (.agg xs.toArray) (.agg ys.toArray)).run P w = .ok b w
  info : ∀ t l, L t = some l → ∃ i z, P.info? t = some i ∧ i.size = l.size ∧ i.bytes = l.bytes ∧ i.zero = some z ∧ z.cells = (l.zero.map FV.val0).toArray
  desc : ∀ t l, L t = some l → l.d.ok P t
  zero : ∀ t l, L t = some l → l.zero.all FV.plain = true ∧ l.zero.length = l.size
  agg : ∀ t l, L t = some l → l.d.isSt = true → ∃ i z, P.info? t = some i ∧ i.zero = some (.agg z)
  one : ∀ t l, L t = some l → l.d.isSt = false → l.size = 1 ∧ ∃ d, P.underlying t = some d ∧ (match d with | .struct _ | .array _ _ => false | _ => true) = true

def lkA : List AV → Nat → AV
  | [], _ => .undef
  | x :: _, 0 => x
  | _ :: xs, n + 1 => lkA xs n

theorem lkA_get : ∀ (xs : List AV) (n : Nat), lkA xs n = (xs[n]?).getD .undef
  | [], n => by simp [lkA]
  | x :: xs, 0 => by simp [lkA]
  | x :: xs, n + 1 => by simp [lkA, lkA_get xs n]

def constF : Value → Option FV
  | .int k n => some (.int k n)
  | .bool b => some (.bool b)
  | .string s => some (.str s)
  | .pointer none => some .nilp
  | .slice none 0 0 => some .nils
  | .nilFunc => some .nilf
  | .nilIface => some .nili
  | _ => none

def constFs : List Value → Option (List FV)
  | [] => some []
  | v :: vs => match constF v, constFs vs with
    | some x, some xs => some (x :: xs)
    | _, _ => none

def constA : Value → AV
  | .bool true => .tt
  | .bool false => .ff
  | .agg cs => match constFs cs.toList with
    | some xs => .agg xs
    | none => .undef
  | v => match constF v with
    | some x => .d x
    | none => .undef

def evA (tm : List AV) : Operand → AV
  | .tmp t => match lkA tm t with
    | .dfr _ _ => .undef
    | x => x
  | .const v => constA v
  | .global _ => .undef
  | .func f => .d (.fn f [])

section
variable {N : Nat} {Z : Nat → Prop} {m : Nat → Option Blk} {ml : Nat → Option Nat} {w : World}

theorem constF_ok {v : Value} {x : FV} (h : constF v = some x) : VF N Z m w x v := by
  unfold constF at h
  split at h <;> first | (cases h; constructor; done) | (cases h; done)

theorem constFs_ok : ∀ {vs : List Value} {xs : List FV}, constFs vs = some xs → vs.length = xs.length ∧ ∀ (i : Nat) (x : FV) (v : Value), xs[i]? = some x → vs[i]? = some v → VF N Z m w x v
  | [], xs, h => by simp [constFs] at h; subst h; simp
  | v :: vs, xs, h => by
    unfold constFs at h
    split at h
    · rename_i x ys hx hys
      cases h
      obtain ⟨h1, h2⟩ := constFs_ok hys
      refine ⟨by simp [h1], fun i => ?_⟩
      cases i with
      | zero => intro x' v' e1 e2; simp at e1 e2; subst e1 e2; exact constF_ok hx
      | succ i => intro x' v' e1 e2; simp at e1 e2; exact h2 i x' v' e1 e2
    · cases h

theorem constA_ok (v : Value) : VA N Z m ml w (constA v) v := by
  unfold constA
  split
  · exact .tt
  · exact .ff
  · rename_i cs
    split
    · rename_i xs h
      obtain ⟨h1, h2⟩ := constFs_ok (N := N) (Z := Z) (m := m) (w := w) h
      exact .agg _ _ (by simpa using h1) fun i x v hx hv => h2 i x v hx (by simpa using hv)
    · exact .undef _
  · split
    · rename_i x h; exact .d (constF_ok h)
    · exact .undef _

theorem RelT.ev {tm : List AV} {a : Act} (r : RelT N Z m ml tm a w) (x : Operand) : VA N Z m ml w (evA tm x) (a.eval x) := by
  cases x with
  | tmp t =>
    simp only [evA, Act.eval, lkA_get]
    cases h : tm[t]? with
    | none => exact .undef _
    | some y =>
      rcases r.pos h with ⟨ht', hne⟩ | ⟨_, f, xs, rfl⟩
      rotate_left
      · exact .undef _
      have he : (match (some y).getD .undef with | .dfr _ _ => .undef | x => x) = y := by
        cases y <;> first | rfl | exact absurd rfl (hne _ _)
      rw [he]
      have hv : a.tmps[t]? = some a.tmps[t] := Array.getElem?_eq_getElem ht'
      simp only [Array.getD_eq_getD_getElem?, hv, Option.getD_some]
      exact r.get t y _ h hv
  | const v => exact constA_ok v
  | global g => exact .undef _
  | func f => exact .d (.fn f [] #[] rfl (by simp))
end

/-- A value, seen to its constructor. -/
def fc (x : AV) (k : AV → Prop) : Prop :=
  match x with
  | .d (.int a b) => k (.d (.int a b))
  | .d (.bool b) => k (.d (.bool b))
  | .d (.str b) => k (.d (.str b))
  | .d .nilp => k (.d .nilp)
  | .d .nils => k (.d .nils)
  | .d .nilf => k (.d .nilf)
  | .d .nili => k (.d .nili)
  | .d (.ptr a b) => k (.d (.ptr a b))
  | .d (.ref a b c) => k (.d (.ref a b c))
  | .d (.lst a b) => k (.d (.lst a b))
  | .d (.fptr a b) => k (.d (.fptr a b))
  | .d (.fn a b) => k (.d (.fn a b))
  | .d (.acc a b) => k (.d (.acc a b))
  | .tt => k .tt
  | .ff => k .ff
  | .lp a b => k (.lp a b)
  | .agg a => k (.agg a)
  | .tup a => k (.tup a)
  | .undef => k .undef
  | .dfr _ _ => False

theorem fc_ok {x : AV} {k : AV → Prop} (h : fc x k) : k x := by
  cases x with
  | d x => cases x <;> exact h
  | dfr _ _ => exact h.elim
  | _ => exact h

/-- Something that is to be shown on the way. -/
structure Rq (p q : Prop) : Prop where intro ::
  out : p ∧ q
theorem Rq.mk {p q : Prop} (h : p) (h' : q) : Rq p q := by refine .intro ?_; exact ⟨h, h'⟩
theorem Rq.get {p q : Prop} (h : Rq p q) : p ∧ q := h.out

def asB (x : AV) (k : Bool → Prop) : Prop :=
  match x with
  | .tt => k true
  | .ff => k false
  | .d (.bool b) => k b
  | _ => False

def asI (x : AV) (k : IntKind → Int → Prop) : Prop :=
  match x with
  | .d (.int a n) => k a n
  | _ => False

section
variable {N : Nat} {Z : Nat → Prop} {m : Nat → Option Blk} {ml : Nat → Option Nat} {w : World}
theorem asB_ok {x : AV} {v : Value} {k : Bool → Prop} (hv : VA N Z m ml w x v) (h : asB x k) : ∃ b, v = .bool b ∧ k b := by
  cases hv with
  | tt => exact ⟨_, rfl, h⟩
  | ff => exact ⟨_, rfl, h⟩
  | d hv => cases hv <;> first | exact ⟨_, rfl, h⟩ | exact h.elim
  | _ => exact h.elim
theorem asI_ok {x : AV} {v : Value} {k : IntKind → Int → Prop} (hv : VA N Z m ml w x v) (h : asI x k) : ∃ a n, v = .int a n ∧ k a n := by
  cases hv with
  | d hv => cases hv <;> first | exact ⟨_, _, rfl, h⟩ | exact h.elim
  | _ => exact h.elim
end

def bitsI (k : IntKind) (op : BinOp) (x y : Int) : Int :=
  k.wrap (match op with
    | .and => (BitVec.ofInt k.bits x &&& BitVec.ofInt k.bits y).toNat
    | .or => (BitVec.ofInt k.bits x ||| BitVec.ofInt k.bits y).toNat
    | .xor => (BitVec.ofInt k.bits x ^^^ BitVec.ofInt k.bits y).toNat
    | _ => (BitVec.ofInt k.bits x &&& ~~~(BitVec.ofInt k.bits y)).toNat)

theorem wrap_fit (k : IntKind) (x : Int) (h1 : k.min ≤ x) (h2 : x ≤ k.max) : k.wrap x = x := by
  cases k <;> simp [IntKind.wrap, IntKind.bits, IntKind.signed, IntKind.min, IntKind.max] at * <;> omega

/-- A number that is brought into its kind's bounds. -/
structure Wr (ka : IntKind) (x : Int) (k : AV → Prop) : Prop where intro ::
  out : k (.d (.int ka (ka.wrap x)))
theorem Wr.get {ka : IntKind} {x : Int} {k : AV → Prop} (h : Wr ka x k) : k (.d (.int ka (ka.wrap x))) := h.out
theorem Wr.raw {ka : IntKind} {x : Int} {k : AV → Prop} (h : k (.d (.int ka (ka.wrap x)))) : Wr ka x k := by refine .intro ?_; exact h
theorem Wr.eq {ka : IntKind} {x y : Int} {k : AV → Prop} (e : ka.wrap x = y) (h : k (.d (.int ka y))) : Wr ka x k := by refine .intro ?_; rw [e]; exact h
theorem Wr.fit {ka : IntKind} {x : Int} {k : AV → Prop} (h1 : ka.min ≤ x) (h2 : x ≤ ka.max) (h : k (.d (.int ka x))) : Wr ka x k := Wr.eq (wrap_fit ka x h1 h2) h
theorem Wr.i64 {x y : Int} {k : AV → Prop} (e : x = y) (h1 : -9223372036854775808 ≤ y) (h2 : y ≤ 9223372036854775807) (h : k (.d (.int .i64 y))) : Wr .i64 x k := by
  subst e; exact Wr.fit h1 h2 h
theorem Wr.u8 {x y : Int} {k : AV → Prop} (e : x = y) (h1 : 0 ≤ y) (h2 : y ≤ 255) (h : k (.d (.int .u8 y))) : Wr .u8 x k := by
  subst e; exact Wr.fit h1 h2 h

/-- Two whole numbers of one kind. -/
def intA (op : BinOp) (ka : IntKind) (a b : Int) (k : AV → Prop) : Prop :=
  match op with
  | .add => Wr ka (a + b) k
  | .sub => Wr ka (a - b) k
  | .mul => Wr ka (a * b) k
  | .quo => Rq (b ≠ 0) (Wr ka (a.tdiv b) k)
  | .rem => Rq (b ≠ 0) (k (.d (.int ka (a.tmod b))))
  | .and => k (.d (.int ka (bitsI ka .and a b)))
  | .or => k (.d (.int ka (bitsI ka .or a b)))
  | .xor => k (.d (.int ka (bitsI ka .xor a b)))
  | .andNot => k (.d (.int ka (bitsI ka .andNot a b)))
  | .eql => k (.d (.bool (decide (a = b))))
  | .neq => k (.d (.bool (decide (a ≠ b))))
  | .lss => k (.d (.bool (decide (a < b))))
  | .leq => k (.d (.bool (decide (a ≤ b))))
  | .gtr => k (.d (.bool (decide (b < a))))
  | .geq => k (.d (.bool (decide (b ≤ a))))
  | _ => False

def shA (op : BinOp) (ka : IntKind) (a b : Int) (k : AV → Prop) : Prop :=
  match op with
  | .shl => Rq (0 ≤ b) (Wr ka (a * 2 ^ (min b.toNat ka.bits)) k)
  | .shr => Rq (0 ≤ b) (k (.d (.int ka (a.fdiv (2 ^ (min b.toNat ka.bits))))))
  | _ => False

/-- Are they equal, where that can be seen? (nil against what is not nil) -/
def nilEq : AV → AV → Option Bool
  | .d .nilp, .d .nilp => some true
  | .d .nilp, .d (.ptr _ _) | .d .nilp, .d (.fptr _ _) | .d .nilp, .lp _ _ => some false
  | .d (.ptr _ _), .d .nilp | .d (.fptr _ _), .d .nilp | .lp _ _, .d .nilp => some false
  | .d .nils, .d .nils => some true
  | .d .nils, .d (.ref _ _ _) => some false
  | .d (.ref _ _ _), .d .nils => some false
  | .d .nilf, .d .nilf => some true
  | .d .nilf, .d (.fn _ _) | .d (.fn _ _), .d .nilf => some false
  | _, _ => none

/-- A list, against nil: it may be nil if it has nothing. -/
def maybeNil : AV → AV → Option Nat
  | .d .nils, .d (.lst n _) => some n
  | .d .nils, .d (.acc _ n) => some n
  | .d (.lst n _), .d .nils => some n
  | .d (.acc _ n), .d .nils => some n
  | _, _ => none

/-- Both ways, where there may be nil. -/
structure NilX (n : Nat) (p q : Prop) : Prop where intro ::
  out : (n = 0 → p) ∧ q
theorem NilX.mk {n : Nat} {p q : Prop} (h : n = 0 → p) (h' : q) : NilX n p q := by refine .intro ?_; exact ⟨h, h'⟩
theorem NilX.get {n : Nat} {p q : Prop} (h : NilX n p q) : (n = 0 → p) ∧ q := h.out

/-- Does the type fit (a pointer's, a slice's, a function's)? -/
def nilFits (x : AV) (y : AV) : LD → Bool
  | .ptr => match x, y with | .d .nilp, _ => true | _, .d .nilp => true | _, _ => false
  | .slc _ => match x, y with | .d .nils, _ => true | _, .d .nils => true | _, _ => false
  | .fn => match x, y with | .d .nilf, _ => true | _, .d .nilf => true | _, _ => false
  | _ => false

def isShift : BinOp → Bool
  | .shl | .shr => true
  | _ => false

def bT (b : Bool) (k : AV → Prop) : Prop := match b with | true => k .tt | false => k .ff

/-- Are cells the same? -/
def eqL : List Bool → List FV → List FV → Bool → (Bool → Prop) → Prop
  | [], [], [], acc, k => k acc
  | true :: gs, .int ka a :: xs, .int kb b :: ys, acc, k => match decide (ka = kb) with
    | true => eqL gs xs ys (acc && a == b) k
    | false => False
  | false :: gs, .bool a :: xs, .bool b :: ys, acc, k => eqL gs xs ys (acc && a == b) k
  | _, _, _, _, _ => False

def binA (L : LE) (op : BinOp) (t : TypeId) (x y : AV) (k : AV → Prop) : Prop :=
  match x, y with
  | .d (.int ka a), .d (.int kb b) => match isShift op with
    | true => shA op ka a b k
    | false => match decide (ka = kb) with
      | true => intA op ka a b k
      | false => False
  | .d (.str a), .d (.str b) => match op with
    | .add => Rq (a.size + b.size ≤ 9223372036854775807) (k (.d (.str (a ++ b))))
    | .eql => k (.d (.bool (decide (a = b))))
    | .neq => k (.d (.bool (decide (a ≠ b))))
    | _ => False
  | .agg xs, .agg ys => match L t with
    | none => False
    | some l => match l.eq with
      | [] => False
      | g :: gs => match op with
        | .eql => eqL (g :: gs) xs ys true fun b => k (.d (.bool b))
        | .neq => eqL (g :: gs) xs ys true fun b => k (.d (.bool (!b)))
        | _ => False
  | x, y => match L t with
    | none => False
    | some l => match l.d with
      | .bool => match op with
        | .eql => asB x fun p => asB y fun q => k (.d (.bool (p == q)))
        | .neq => asB x fun p => asB y fun q => k (.d (.bool (p != q)))
        | _ => False
      | d => match nilFits x y d with
        | false => False
        | true => match nilEq x y with
          | none => match maybeNil x y with
            | none => False
            | some n => match op with
              | .eql => NilX n (k .tt) (k .ff)
              | .neq => NilX n (k .ff) (k .tt)
              | _ => False
          | some b => match op with
            | .eql => bT b k
            | .neq => bT (!b) k
            | _ => False


theorem ba_eq {a b : ByteArray} : (a.toList == b.toList) = decide (a = b) := by
  rw [Bool.eq_iff_iff]
  simp only [beq_iff_eq, decide_eq_true_eq]
  constructor
  · intro h
    rw [Go.ByteArray.toList_eq, Go.ByteArray.toList_eq] at h
    cases a; cases b; simp at h; exact congrArg _ h
  · rintro rfl; rfl

section
variable {P : Program} {N : Nat} {Z : Nat → Prop} {m : Nat → Option Blk} {ml : Nat → Option Nat} {w : World}

def binRun (op : BinOp) (t : TypeId) (xo yo : Operand) (vx vy : Value) : Sem Value := do eqGuard op t xo yo vx vy; binOp op t vx vy

theorem bitsI_ok (op : BinOp) (ka : IntKind) (a b : Int) (h : op = .and ∨ op = .or ∨ op = .xor ∨ op = .andNot) : (Op.intBits op ka a b).run P w = .ok (.int ka (bitsI ka op a b)) w := by
  rcases h with rfl | rfl | rfl | rfl <;> simp [Op.intBits, bitsI]

theorem intA_ok {op : BinOp} {t : TypeId} {ka : IntKind} {a b : Int} {k : AV → Prop} (xo yo : Operand) (hns : isShift op = false) (h : intA op ka a b k) :
    ∃ r v, k r ∧ VA N Z m ml w r v ∧ ∀ w' : World, (binRun op t xo yo (.int ka a) (.int ka b)).run P w' = .ok v w' := by
  cases op <;> simp only [intA] at h
  case add => exact ⟨_, _, h.get, .d (.int _ _), fun w' => by simp [binRun, eqGuard, binOp, Op.intArith]⟩
  case sub => exact ⟨_, _, h.get, .d (.int _ _), fun w' => by simp [binRun, eqGuard, binOp, Op.intArith]⟩
  case mul => exact ⟨_, _, h.get, .d (.int _ _), fun w' => by simp [binRun, eqGuard, binOp, Op.intArith]⟩
  case quo => exact ⟨_, _, h.get.2.get, .d (.int _ _), fun w' => by simp [binRun, eqGuard, binOp, Op.intDiv, h.get.1]⟩
  case rem => exact ⟨_, _, h.get.2, .d (.int _ _), fun w' => by simp [binRun, eqGuard, binOp, Op.intDiv, h.get.1]⟩
  case and => exact ⟨_, _, h, .d (.int _ _), fun w' => by simp [binRun, eqGuard, binOp, bitsI_ok]⟩
  case or => exact ⟨_, _, h, .d (.int _ _), fun w' => by simp [binRun, eqGuard, binOp, bitsI_ok]⟩
  case xor => exact ⟨_, _, h, .d (.int _ _), fun w' => by simp [binRun, eqGuard, binOp, bitsI_ok]⟩
  case andNot => exact ⟨_, _, h, .d (.int _ _), fun w' => by simp [binRun, eqGuard, binOp, bitsI_ok]⟩
  case eql => exact ⟨_, _, h, .d (.bool _), fun w' => by simp [binRun, eqGuard, binOp, Op.intCmp]; rfl⟩
  case neq => exact ⟨_, _, h, .d (.bool _), fun w' => by simp [binRun, eqGuard, binOp, Op.intCmp]; rw [Bool.eq_iff_iff]; simp⟩
  case lss => exact ⟨_, _, h, .d (.bool _), fun w' => by simp [binRun, eqGuard, binOp, Op.intCmp]⟩
  case leq => exact ⟨_, _, h, .d (.bool _), fun w' => by simp [binRun, eqGuard, binOp, Op.intCmp]⟩
  case gtr => exact ⟨_, _, h, .d (.bool _), fun w' => by simp [binRun, eqGuard, binOp, Op.intCmp]⟩
  case geq => exact ⟨_, _, h, .d (.bool _), fun w' => by simp [binRun, eqGuard, binOp, Op.intCmp]⟩
  all_goals first | exact h.elim | simp [isShift] at hns

theorem shA_ok {op : BinOp} {t : TypeId} {ka kb : IntKind} {a b : Int} {k : AV → Prop} (xo yo : Operand) (h : shA op ka a b k) :
    ∃ r v, k r ∧ VA N Z m ml w r v ∧ ∀ w' : World, (binRun op t xo yo (.int ka a) (.int kb b)).run P w' = .ok v w' := by
  cases op <;> simp only [shA] at h
  case shl => exact ⟨_, _, h.get.2.get, .d (.int _ _), fun w' => by simp [binRun, eqGuard, binOp, Op.shift, show ¬ b < 0 by have := h.get.1; omega]⟩
  case shr => exact ⟨_, _, h.get.2, .d (.int _ _), fun w' => by simp [binRun, eqGuard, binOp, Op.shift, show ¬ b < 0 by have := h.get.1; omega]⟩
  all_goals exact h.elim

theorem strA_ok {op : BinOp} {t : TypeId} {a b : ByteArray} {k : AV → Prop} (xo yo : Operand) (h : match op with
    | .add => Rq (a.size + b.size ≤ 9223372036854775807) (k (.d (.str (a ++ b))))
    | .eql => k (.d (.bool (decide (a = b))))
    | .neq => k (.d (.bool (decide (a ≠ b))))
    | _ => False) :
    ∃ r v, k r ∧ VA N Z m ml w r v ∧ ∀ w' : World, (binRun op t xo yo (.string a) (.string b)).run P w' = .ok v w' := by
  cases op <;> simp only [] at h
  case add => exact ⟨_, _, h.get.2, .d (.str _), fun w' => by
    have h1 := h.get.1
    have : ¬ ((a.size + b.size : Nat) : Int) > IntKind.i64.max := by simp [IntKind.max, IntKind.signed, IntKind.bits]; omega
    simp only [binRun, eqGuard, binOp, Op.stringOp, this, if_false]; simp⟩
  case eql => exact ⟨_, _, h, .d (.bool _), fun w' => by simp [binRun, eqGuard, binOp, Op.stringOp, ba_eq]⟩
  case neq => exact ⟨_, _, h, .d (.bool _), fun w' => by simp [binRun, eqGuard, binOp, Op.stringOp, ba_eq]⟩
  all_goals exact h.elim

theorem equal_run {t : TypeId} {d : TypeDesc} (hu : P.underlying t = some d) (x y : Value) (b : Bool)
    (hb : (match d, x, y with
      | .bool, .bool a, .bool b => some (a == b)
      | .pointer _, .pointer none, .pointer b => some b.isNone
      | .pointer _, .pointer (some _), .pointer none => some false
      | .slice _, .slice none _ _, .slice b _ _ => some b.isNone
      | .slice _, .slice (some _) _ _, .slice none _ _ => some false
      | .func _ _ _, .nilFunc, .nilFunc => some true
      | .func _ _ _, .nilFunc, .func _ _ _ => some false
      | .func _ _ _, .func _ _ _, .nilFunc => some false
      | _, _, _ => none) = some b) : (Op.equal t x y).run P w = .ok b w := by
  unfold Op.equal Op.maxDepth Op.equalIn
  simp only [Sem.run_bind, run_underlying hu, Result.andThen_ok]
  split at hb <;> first | (cases hb; done) | (simp at hb; subst hb; simp)

theorem nilEq_ok {L : LE} (hL : LayOK P L) {t : TypeId} {l : Lay} (hl : L t = some l) {x y : AV} {vx vy : Value} (hx : VA N Z m ml w x vx) (hy : VA N Z m ml w y vy) {b : Bool}
    (hf : nilFits x y l.d = true) (hb : nilEq x y = some b) : ∀ w' : World, (Op.equal t vx vy).run P w' = .ok b w' := by
  intro w'
  have hd := hL.desc t l hl
  unfold nilFits at hf
  split at hf
  · rename_i hld
    rw [hld] at hd
    obtain ⟨e, he, _⟩ := hd
    refine equal_run he vx vy b ?_
    unfold nilEq at hb
    split at hb <;> first | (simp at hf; done) | (cases hb; cases hx; rename_i hx; cases hy; rename_i hy; cases hx; cases hy; rfl) | (cases hb; cases hx; rename_i hx; cases hx; cases hy; rfl) | (cases hb; cases hx; cases hy; rename_i hy; cases hy; rfl) | (cases hb; done)
  · rename_i e hld
    rw [hld] at hd
    refine equal_run hd vx vy b ?_
    unfold nilEq at hb
    split at hb <;> first | (simp at hf; done) | (cases hb; cases hx; rename_i hx; cases hy; rename_i hy; cases hx; cases hy; rfl) | (cases hb; cases hx; rename_i hx; cases hx; cases hy; rfl) | (cases hb; cases hx; cases hy; rename_i hy; cases hy; rfl) | (cases hb; done)
  · rename_i hld
    rw [hld] at hd
    obtain ⟨ps, rs, v, he⟩ := hd
    refine equal_run he vx vy b ?_
    unfold nilEq at hb
    split at hb <;> first | (simp at hf; done) | (cases hb; cases hx; rename_i hx; cases hy; rename_i hy; cases hx; cases hy; rfl) | (cases hb; cases hx; rename_i hx; cases hx; cases hy; rfl) | (cases hb; cases hx; cases hy; rename_i hy; cases hy; rfl) | (cases hb; done)
  · cases hf

def guarded : Value → Value → Bool
  | .nilIface, .nilIface => true
  | .agg _, .agg _ => true
  | _, _ => false

theorem eqGuard_other {op : BinOp} {t : TypeId} {xo yo : Operand} {x y : Value} (h : guarded x y = false) : (eqGuard op t xo yo x y).run P w = .ok () w := by
  unfold guarded at h
  unfold eqGuard
  cases op <;> first | rfl | (simp only [Bool.not_true, Bool.false_eq_true, if_false]; split <;> first | (simp at h; done) | rfl)

theorem bT_ok {b : Bool} {k : AV → Prop} (h : bT b k) : ∃ r, k r ∧ VA N Z m ml w r (.bool b) := by
  cases b
  · exact ⟨_, h, .ff⟩
  · exact ⟨_, h, .tt⟩

theorem nilEq_shape {x y : AV} {vx vy : Value} (hx : VA N Z m ml w x vx) (hy : VA N Z m ml w y vy) {b : Bool} (hb : nilEq x y = some b) (op : BinOp) (ho : op = .eql ∨ op = .neq) :
    guarded vx vy = false ∧
    ∀ t, ∀ w' : World, (binOp op t vx vy).run P w' = ((Op.equal t vx vy).run P w').andThen fun b w => .ok (.bool (if op = .eql then b else !b)) w := by
  unfold nilEq at hb
  rcases ho with rfl | rfl <;>
  (split at hb <;> first | (cases hb; done) | (cases hx; rename_i hx; cases hy; rename_i hy; cases hx; cases hy; exact ⟨rfl, fun t w' => by simp [binOp]⟩) | (cases hx; rename_i hx; cases hx; cases hy; exact ⟨rfl, fun t w' => by simp [binOp]⟩) | (cases hx; cases hy; rename_i hy; cases hy; exact ⟨rfl, fun t w' => by simp [binOp]⟩))

theorem maybeNil_ok {L : LE} (hL : LayOK P L) {t : TypeId} {l : Lay} (hl : L t = some l) {x y : AV} {vx vy : Value} (hx : VA N Z m ml w x vx) (hy : VA N Z m ml w y vy) {n : Nat} (hf : nilFits x y l.d = true)
    (hb : maybeNil x y = some n) (op : BinOp) (ho : op = .eql ∨ op = .neq) (xo yo : Operand) : ∃ b, (b = true → n = 0) ∧ ∀ w' : World, (binRun op t xo yo vx vy).run P w' = .ok (.bool (if op = .eql then b else !b)) w' := by
  have hs : ∃ e, P.underlying t = some (.slice e) := by
    have hd := hL.desc t l hl
    cases hld : l.d with
    | slc e => rw [hld] at hd; exact ⟨e, hd⟩
    | _ => exfalso; rw [hld] at hf; unfold maybeNil at hb; split at hb <;> first | (simp [nilFits] at hf; done) | cases hb
  obtain ⟨e, he⟩ := hs
  have key : ∃ a c, (a = none → n = 0) ∧ ((vx = .slice none 0 0 ∧ vy = .slice a n c) ∨ (vx = .slice a n c ∧ vy = .slice none 0 0)) := by
    unfold maybeNil at hb
    split at hb
    · cases hb; cases hx; rename_i hx; cases hx; cases hy; rename_i hy
      obtain ⟨a, c, h1, h2⟩ := hy.lst_sl; exact ⟨a, c, fun h => (h2 h).1, .inl ⟨rfl, h1⟩⟩
    · cases hb; cases hx; rename_i hx; cases hx; cases hy; rename_i hy
      obtain ⟨a, c, h1, h2⟩ := hy.acc_sl; exact ⟨a, c, fun h => (h2 h).1, .inl ⟨rfl, h1⟩⟩
    · cases hb; cases hy; rename_i hy; cases hy; cases hx; rename_i hx
      obtain ⟨a, c, h1, h2⟩ := hx.lst_sl; exact ⟨a, c, fun h => (h2 h).1, .inr ⟨h1, rfl⟩⟩
    · cases hb; cases hy; rename_i hy; cases hy; cases hx; rename_i hx
      obtain ⟨a, c, h1, h2⟩ := hx.acc_sl; exact ⟨a, c, fun h => (h2 h).1, .inr ⟨h1, rfl⟩⟩
    · cases hb
  obtain ⟨a, c, h1, h2⟩ := key
  refine ⟨a.isNone, fun h => h1 (by simpa using h), fun w' => ?_⟩
  rcases h2 with ⟨rfl, rfl⟩ | ⟨rfl, rfl⟩
  · have hq := equal_run (w := w') he (.slice none 0 0) (.slice a n c) a.isNone rfl
    rcases ho with rfl | rfl <;> simp only [binRun, Sem.run_bind, eqGuard_other (show guarded (.slice none 0 0) (.slice a n c) = false from rfl), Result.andThen_ok] <;> simp [binOp, hq]
  · have hq := equal_run (w := w') he (.slice a n c) (.slice none 0 0) a.isNone (by cases a <;> rfl)
    rcases ho with rfl | rfl <;> simp only [binRun, Sem.run_bind, eqGuard_other (show guarded (.slice a n c) (.slice none 0 0) = false from rfl), Result.andThen_ok] <;> simp [binOp, hq]

theorem boolEq_ok {L : LE} (hL : LayOK P L) {t : TypeId} {l : Lay} (hl : L t = some l) (hd : l.d = .bool) (a b : Bool) (op : BinOp) (ho : op = .eql ∨ op = .neq) (xo yo : Operand) :
    (binRun op t xo yo (.bool a) (.bool b)).run P w = .ok (.bool (if op = .eql then a == b else a != b)) w := by
  have h := hL.desc t l hl
  rw [hd] at h
  have he := equal_run (w := w) h (.bool a) (.bool b) (a == b) rfl
  rcases ho with rfl | rfl
  · simp [binRun, eqGuard, binOp, he]
  · cases a <;> cases b <;> simp [binRun, eqGuard, binOp, he]

theorem eqL_ok : ∀ {gs : List Bool} {xs ys : List FV} {acc : Bool} {k : Bool → Prop}, eqL gs xs ys acc k → ∀ {vs us : List Value}, vs.length = xs.length → us.length = ys.length →
    (∀ (i : Nat) (x : FV) (v : Value), xs[i]? = some x → vs[i]? = some v → VF N Z m w x v) → (∀ (i : Nat) (x : FV) (v : Value), ys[i]? = some x → us[i]? = some v → VF N Z m w x v) →
    ∃ b, scals gs vs us = some b ∧ k (acc && b) := by
  intro gs
  induction gs with
  | nil =>
    intro xs ys acc k h vs us h1 h2 _ _
    cases xs <;> cases ys <;> first | (simp [eqL] at h; done) | skip
    cases vs with
    | cons _ _ => simp at h1
    | nil => cases us with
      | cons _ _ => simp at h2
      | nil => exact ⟨true, rfl, by simpa [eqL] using h⟩
  | cons g gs ih =>
    intro xs ys acc k h vs us h1 h2 hv hu
    cases xs with
    | nil => cases g <;> simp [eqL] at h
    | cons x xs =>
    cases ys with
    | nil => cases g <;> cases x <;> simp [eqL] at h
    | cons y ys =>
      cases vs with
      | nil => simp at h1
      | cons v vs => cases us with
        | nil => simp at h2
        | cons u us =>
          have hx := hv 0 x v rfl rfl
          have hy := hu 0 y u rfl rfl
          have hv' := fun i a b ha hb => hv (i + 1) a b ha hb
          have hu' := fun i a b ha hb => hu (i + 1) a b ha hb
          simp only [List.length_cons, Nat.add_right_cancel_iff] at h1 h2
          cases g <;> cases x <;> cases y <;> first | (simp [eqL] at h; done) | skip
          · cases hx; cases hy
            simp only [eqL] at h
            obtain ⟨b, e, hb⟩ := ih h h1 h2 hv' hu'
            exact ⟨_, by simp only [scals, scal, e]; rfl, by simpa [Bool.and_assoc] using hb⟩
          · cases hx; cases hy
            simp only [eqL] at h
            split at h
            · rename_i hk
              obtain ⟨b, e, hb⟩ := ih h h1 h2 hv' hu'
              exact ⟨_, by simp only [scals, scal, hk, e]; rfl, by simpa [Bool.and_assoc] using hb⟩
            · exact h.elim

theorem aggEq_ok {L : LE} (hL : LayOK P L) {t : TypeId} {l : Lay} (hl : L t = some l) (he : l.eq ≠ []) {xs ys : List FV} {vx vy : Value} (hx : VA N Z m ml w (.agg xs) vx) (hy : VA N Z m ml w (.agg ys) vy)
    {k : Bool → Prop} (h : eqL l.eq xs ys true k) (op : BinOp) (ho : op = .eql ∨ op = .neq) (xo yo : Operand) :
    ∃ b, k b ∧ ∀ w' : World, (binRun op t xo yo vx vy).run P w' = .ok (.bool (if op = .eql then b else !b)) w' := by
  cases hx; rename_i vs h1 h2
  cases hy; rename_i us h3 h4
  obtain ⟨b, hs, hk⟩ := eqL_ok h (vs := vs.toList) (us := us.toList) (by simpa using h1) (by simpa using h3) (fun i x v a b => h2 i x v a (by simpa using b)) (fun i x v a b => h4 i x v a (by simpa using b))
  obtain ⟨g1, g2⟩ := hL.eqs t l hl he
  have g3 := fun w' => g2 vs.toList us.toList b w' hs
  simp only [Array.toArray_toList] at g3
  refine ⟨b, by simpa using hk, fun w' => ?_⟩
  rcases ho with rfl | rfl
  · simp only [binRun, Sem.run_bind, run_eqGuard_agg w' .eql t xo yo vs us g1, Result.andThen_ok, run_eql_struct w' t vs us, g3]; rfl
  · simp only [binRun, Sem.run_bind, run_eqGuard_agg w' .neq t xo yo vs us g1, Result.andThen_ok, run_neq_struct w' t vs us, g3]; rfl

theorem binA_ok {L : LE} (hL : LayOK P L) {op : BinOp} {t : TypeId} (xo yo : Operand) {x y : AV} {vx vy : Value} {k : AV → Prop} (hx : VA N Z m ml w x vx) (hy : VA N Z m ml w y vy) (h : binA L op t x y k) :
    ∃ r v, k r ∧ VA N Z m ml w r v ∧ ∀ w' : World, (binRun op t xo yo vx vy).run P w' = .ok v w' := by
  unfold binA at h
  split at h
  · cases hx; rename_i hx; cases hy; rename_i hy; cases hx; cases hy
    split at h
    · exact shA_ok xo yo h
    · rename_i hns
      split at h
      · rename_i ka a kb b hk
        simp at hk; subst hk
        exact intA_ok xo yo hns h
      · exact h.elim
  · cases hx; rename_i hx; cases hy; rename_i hy; cases hx; cases hy
    exact strA_ok xo yo h
  · split at h
    · exact h.elim
    · rename_i l hl
      split at h
      · exact h.elim
      · rename_i g gs he
        have hne : l.eq ≠ [] := by rw [he]; exact List.cons_ne_nil _ _
        split at h
        · obtain ⟨b, hk, hr⟩ := aggEq_ok hL hl hne hx hy (by rw [he]; exact h) .eql (.inl rfl) xo yo
          exact ⟨_, _, hk, .d (.bool _), fun w' => by simpa using hr w'⟩
        · obtain ⟨b, hk, hr⟩ := aggEq_ok hL hl hne hx hy (by rw [he]; exact h) .neq (.inr rfl) xo yo
          exact ⟨_, _, hk, .d (.bool _), fun w' => by simpa using hr w'⟩
        · exact h.elim
  · split at h
    · exact h.elim
    · rename_i l hl
      split at h
      · rename_i hd
        split at h
        · obtain ⟨a, rfl, h⟩ := asB_ok hx h
          obtain ⟨b, rfl, h⟩ := asB_ok hy h
          exact ⟨_, _, h, .d (.bool _), fun w' => by simpa using boolEq_ok hL hl hd a b .eql (.inl rfl) xo yo⟩
        · obtain ⟨a, rfl, h⟩ := asB_ok hx h
          obtain ⟨b, rfl, h⟩ := asB_ok hy h
          exact ⟨_, _, h, .d (.bool _), fun w' => by simpa using boolEq_ok hL hl hd a b .neq (.inr rfl) xo yo⟩
        · exact h.elim
      · split at h
        · exact h.elim
        · rename_i hf
          split at h
          · split at h
            · exact h.elim
            · rename_i n hb
              split at h
              · obtain ⟨b, h1, h2⟩ := maybeNil_ok (P := P) hL hl hx hy hf hb .eql (.inl rfl) xo yo
                cases b with
                | true => exact ⟨_, _, h.get.1 (h1 rfl), .tt, fun w' => by simpa using h2 w'⟩
                | false => exact ⟨_, _, h.get.2, .ff, fun w' => by simpa using h2 w'⟩
              · obtain ⟨b, h1, h2⟩ := maybeNil_ok (P := P) hL hl hx hy hf hb .neq (.inr rfl) xo yo
                cases b with
                | true => exact ⟨_, _, h.get.1 (h1 rfl), .ff, fun w' => by simpa using h2 w'⟩
                | false => exact ⟨_, _, h.get.2, .tt, fun w' => by simpa using h2 w'⟩
              · exact h.elim
          · rename_i b hb
            have he := nilEq_ok hL hl hx hy hf hb
            split at h
            · obtain ⟨h1, h2⟩ := nilEq_shape (P := P) hx hy hb .eql (.inl rfl)
              obtain ⟨r, hk, hr⟩ := bT_ok (N := N) (Z := Z) (m := m) (ml := ml) (w := w) h
              exact ⟨r, _, hk, hr, fun w' => by simp [binRun, eqGuard_other h1, h2, he]⟩
            · obtain ⟨h1, h2⟩ := nilEq_shape (P := P) hx hy hb .neq (.inr rfl)
              obtain ⟨r, hk, hr⟩ := bT_ok (N := N) (Z := Z) (m := m) (ml := ml) (w := w) h
              exact ⟨r, _, hk, hr, fun w' => by simp [binRun, eqGuard_other h1, h2, he]⟩
            · exact h.elim

end

end Go.Proofs.Rv
