/- Arithmetic, comparisons, conversions, parts of strings, slices and structs: on abstract data, and in the model. -/
import Derived.Test.YtamckclacocifaaAb3
namespace Go.Ab

def bitI (k : IntKind) (f : BitVec k.bits → BitVec k.bits → BitVec k.bits) (a b : Int) : Int :=
  k.wrap (f (BitVec.ofInt k.bits a) (BitVec.ofInt k.bits b)).toNat

def binI (op : BinOp) (k : IntKind) (a : Int) (k' : IntKind) (b : Int) : Option D :=
  match op with
  | .shl => if b < 0 then none else some (.int k (k.wrap (a * 2 ^ min b.toNat k.bits)))
  | .shr => if b < 0 then none else some (.int k (a.fdiv (2 ^ min b.toNat k.bits)))
  | .add => if k = k' then some (.int k (k.wrap (a + b))) else none
  | .sub => if k = k' then some (.int k (k.wrap (a - b))) else none
  | .mul => if k = k' then some (.int k (k.wrap (a * b))) else none
  | .quo => if k = k' then (if b = 0 then none else some (.int k (k.wrap (a.tdiv b)))) else none
  | .rem => if k = k' then (if b = 0 then none else some (.int k (a.tmod b))) else none
  | .and => if k = k' then some (.int k (bitI k (· &&& ·) a b)) else none
  | .or => if k = k' then some (.int k (bitI k (· ||| ·) a b)) else none
  | .xor => if k = k' then some (.int k (bitI k (· ^^^ ·) a b)) else none
  | .andNot => if k = k' then some (.int k (bitI k (fun x y => x &&& ~~~y) a b)) else none
  | .eql => if k = k' then some (.bool (a == b)) else none
  | .neq => if k = k' then some (.bool (a != b)) else none
  | .lss => if k = k' then some (.bool (decide (a < b))) else none
  | .leq => if k = k' then some (.bool (decide (a ≤ b))) else none
  | .gtr => if k = k' then some (.bool (decide (a > b))) else none
  | .geq => if k = k' then some (.bool (decide (a ≥ b))) else none

def binS (op : BinOp) (a b : List UInt8) : Option D :=
  match op with
  | .add => if a.length + b.length ≤ 9223372036854775807 then some (.str (a ++ b)) else none
  | .eql => some (.bool (a == b))
  | .neq => some (.bool (!(a == b)))
  | .lss => some (.bool (Op.bytesLess a b))
  | .leq => some (.bool (Op.bytesLess a b || a == b))
  | .gtr => some (.bool (!(Op.bytesLess a b || a == b)))
  | .geq => some (.bool (!(Op.bytesLess a b)))
  | _ => none

def isBoolT (P : Program) (t : TypeId) : Bool :=
  match P.underlying t with
  | some .bool => true
  | _ => false

def binB (op : BinOp) (a b : Bool) : Option D :=
  match op with
  | .eql => some (.bool (a == b))
  | .neq => some (.bool (!(a == b)))
  | _ => none

def isPtrT (P : Program) (t : TypeId) : Bool :=
  match P.underlying t with
  | some (.pointer _) => true
  | _ => false

def isIfaceT (P : Program) (t : TypeId) : Bool :=
  match P.underlying t with
  | some (.interface _) => true
  | _ => false

def isFuncT (P : Program) (t : TypeId) : Bool :=
  match P.underlying t with
  | some (.func _ _ _) => true
  | _ => false

/-- Is it nil? -/
def nilD (P : Program) (t : TypeId) : D → Option Bool
  | .nilp => if isPtrT P t then some true else none
  | .pd _ => if isPtrT P t then some false else none
  | .ptr _ _ => if isPtrT P t then some false else none
  | .nili => if isIfaceT P t then some true else none
  | .iface _ _ => if isIfaceT P t then some false else none
  | .nilf => if isFuncT P t then some true else none
  | .fn _ _ _ => if isFuncT P t then some false else none
  | _ => none

def isNilD : D → Bool
  | .nilp | .nili | .nilf => true
  | _ => false

def binN (P : Program) (op : BinOp) (t : TypeId) (x : D) : Option D :=
  match nilD P t x with
  | none => none
  | some b => match op with
    | .eql => some (.bool b)
    | .neq => some (.bool (!b))
    | _ => none

def binD (P : Program) (op : BinOp) (t : TypeId) (x y : D) : Option D :=
  match x, y with
  | .int k a, .int k' b => binI op k a k' b
  | .str a, .str b => binS op a b
  | .bool a, .bool b => if isBoolT P t then binB op a b else none
  | _, _ => none

section
variable {P : Program} {α : List Value} {S : Nat → Prop} {w : World}

theorem binI_sound (op : BinOp) (t : TypeId) (k k' : IntKind) (a b : Int) {d : D} (h : binI op k a k' b = some d) :
    ∃ v, (binOp op t (.int k a) (.int k' b)).run P w = .ok v w ∧ RepV α S w v d := by
  cases op <;> simp only [binI] at h
  case shl =>
    split at h
    · cases h
    · rename_i hb
      cases h
      exact ⟨_, by simp [binOp, Op.shift, hb], .int _ _⟩
  case shr =>
    split at h
    · cases h
    · rename_i hb
      cases h
      exact ⟨_, by simp [binOp, Op.shift, hb], .int _ _⟩
  case quo =>
    split at h
    · rename_i hk; subst hk
      split at h
      · cases h
      · rename_i hb
        cases h
        exact ⟨_, by simp [binOp, Op.intDiv, hb], .int _ _⟩
    · cases h
  case rem =>
    split at h
    · rename_i hk; subst hk
      split at h
      · cases h
      · rename_i hb
        cases h
        exact ⟨_, by simp [binOp, Op.intDiv, hb], .int _ _⟩
    · cases h
  all_goals
    split at h
    · rename_i hk; subst hk
      cases h
      first
        | exact ⟨_, by simp [binOp, Op.intCmp] <;> rfl, .bool _⟩
        | exact ⟨_, by simp [binOp] <;> rfl, .int _ _⟩
    · cases h

theorem binS_sound (op : BinOp) (t : TypeId) (a b : List UInt8) {d : D} (h : binS op a b = some d) :
    ∃ v, (binOp op t (.string ⟨a.toArray⟩) (.string ⟨b.toArray⟩)).run P w = .ok v w ∧ RepV α S w v d := by
  cases op <;> simp only [binS] at h
  case add =>
    split at h
    · rename_i hl
      cases h
      refine ⟨_, by rw [binOp_string_add]; exact run_string_add_sum w _ _ (by simpa [ByteArray.size] using hl), ?_⟩
      rw [ByteArray.mk_append_mk]
      exact .str _
    · cases h
  all_goals first
    | (cases h; done)
    | skip
  all_goals
    injection h with h
    subst h
    refine ⟨_, by simp [binOp, Op.stringOp] <;> rfl, .bool _⟩

theorem eqGuard_int (op : BinOp) (t : TypeId) (x y : Operand) (k k' : IntKind) (a b : Int) : (eqGuard op t x y (.int k a) (.int k' b)).run P w = .ok () w := by
  unfold eqGuard; cases op <;> rfl

theorem eqGuard_str (op : BinOp) (t : TypeId) (x y : Operand) (a b : ByteArray) : (eqGuard op t x y (.string a) (.string b)).run P w = .ok () w := by
  unfold eqGuard; cases op <;> rfl

theorem eqGuard_bool (op : BinOp) (t : TypeId) (x y : Operand) (a b : Bool) : (eqGuard op t x y (.bool a) (.bool b)).run P w = .ok () w := by
  unfold eqGuard; cases op <;> rfl

theorem binD_sound (op : BinOp) (t : TypeId) (ox oy : Operand) {x y d : D} {a b : Value} (h : binD P op t x y = some d) (hx : RepV α S w a x) (hy : RepV α S w b y) :
    ∃ v, (do eqGuard op t ox oy a b; binOp op t a b : Sem Value).run P w = .ok v w ∧ RepV α S w v d := by
  unfold binD at h
  split at h
  · rename_i k a' k' b'
    cases hx; cases hy
    simp only [Sem.run_bind, eqGuard_int, Result.andThen_ok]
    exact binI_sound op t _ _ _ _ h
  · rename_i a' b'
    cases hx; cases hy
    simp only [Sem.run_bind, eqGuard_str, Result.andThen_ok]
    exact binS_sound op t _ _ h
  · rename_i a' b'
    cases hx; cases hy
    simp only [Sem.run_bind, eqGuard_bool, Result.andThen_ok]
    split at h
    · rename_i hb
      have hu : P.underlying t = some .bool := by
        unfold isBoolT at hb
        split at hb
        · assumption
        · cases hb
      cases op <;> simp only [binB] at h
      case eql => cases h; exact ⟨_, run_eql_bool w t _ _ hu, .bool _⟩
      case neq => cases h; exact ⟨_, run_neq_bool w t _ _ hu, .bool _⟩
      all_goals cases h
    · cases h
  · cases h

def unD (op : UnOp) : D → Option D
  | .int k n => match op with
    | .neg => some (.int k (k.wrap (0 - n)))
    | .xor => some (.int k (bitI k (· ^^^ ·) (if k.signed then -1 else k.max) n))
    | _ => none
  | .bool b => match op with
    | .not => some (.bool (!b))
    | _ => none
  | _ => none

theorem unD_sound (op : UnOp) {x d : D} {a : Value} (h : unD op x = some d) (hx : RepV α S w a x) : ∃ v, (Op.unary op a).run P w = .ok v w ∧ RepV α S w v d := by
  unfold unD at h
  split at h
  · cases hx
    cases op <;> simp only at h
    case neg => cases h; exact ⟨_, by simp [Op.unary, Op.intArith] <;> rfl, .int _ _⟩
    case xor => cases h; exact ⟨_, by simp only [Op.unary, Op.intBits]; rfl, .int _ _⟩
    all_goals cases h
  · cases hx
    cases op <;> simp only at h
    case not => cases h; exact ⟨_, by simp [Op.unary] <;> rfl, .bool _⟩
    all_goals cases h
  · cases h

def intKindOf (P : Program) (t : TypeId) : Option IntKind :=
  match P.underlying t with
  | some (.int k) => some k
  | _ => none

def isStrT (P : Program) (t : TypeId) : Bool :=
  match P.underlying t with
  | some .string => true
  | _ => false

def isBytesT (P : Program) (t : TypeId) : Bool :=
  match P.underlying t with
  | some (.slice e) => match P.underlying e with
    | some (.int .u8) => true
    | _ => false
  | _ => false

/-- Bytes, read off cells. -/
def bytesD : List D → Option (List UInt8)
  | [] => some []
  | .int .u8 n :: ds => match bytesD ds with
    | some l => some (UInt8.ofNat n.toNat :: l)
    | none => none
  | _ :: _ => none

def encB (b : UInt8) : D := .int .u8 b.toNat

theorem bytesD_enc : ∀ l : List UInt8, bytesD (l.map encB) = some l
  | [] => rfl
  | b :: l => by simp [bytesD, encB, bytesD_enc l]

/-- Conversions that need no memory. -/
def convP (P : Program) (src dst : TypeId) (x : D) : Option D :=
  match x with
  | .int _ n => match P.underlying src with
    | none => none
    | some _ => match intKindOf P dst with
      | some k => some (.int k (k.wrap n))
      | none => none
  | .str s => if isStrT P src && isStrT P dst then some (.str s) else none
  | _ => none

theorem convP_sound (src dst : TypeId) {x d : D} {a : Value} (h : convP P src dst x = some d) (hx : RepV α S w a x) : ∃ v, (convert src dst a).run P w = .ok v w ∧ RepV α S w v d := by
  unfold convP at h
  split at h
  · cases hx
    split at h
    · cases h
    · rename_i u hu
      split at h
      · rename_i k hk
        cases h
        unfold intKindOf at hk
        split at hk
        · rename_i k' hk'
          cases hk
          exact ⟨_, by simp only [convert, Sem.run_bind, run_underlying hu, run_underlying hk', Result.andThen_ok]; rfl, .int _ _⟩
        · cases hk
      · cases h
  · cases hx
    split at h
    · rename_i hs
      cases h
      simp only [Bool.and_eq_true] at hs
      obtain ⟨h1, h2⟩ := hs
      unfold isStrT at h1 h2
      split at h1
      · rename_i e1
        split at h2
        · rename_i e2
          exact ⟨_, by simp only [convert, Sem.run_bind, run_underlying e1, run_underlying e2, Result.andThen_ok]; rfl, .str _⟩
        · cases h2
      · cases h1
    · cases h
  · cases h

end
end Go.Ab
