/- The small code out of the program's: each operation looked up; that its demands are enough. -/
import Derived.Test.YtamckclacocifaaAb24
namespace Go.Ab

def rxL : List Operand → Option (List Ox)
  | [] => some []
  | x :: xs => (rx x).bind fun a => (rxL xs).bind fun l => some (a :: l)

def rxP : List (Nat × Operand) → Option (List (Nat × Ox))
  | [] => some []
  | (i, x) :: xs => (rx x).bind fun a => (rxP xs).bind fun l => some ((i, a) :: l)

def rxO : Option Operand → Option (Option Ox)
  | none => some none
  | some x => (rx x).bind fun a => some (some a)

def okIf (b : Bool) : Option Unit := if b = true then some () else none

def rop (P : Program) (dr : Bool) (op : Op) : Option IOp :=
  match op with
  | .move x => (rx x).bind fun a => some (.mv a)
  | .assign x => (rx x).bind fun a => some (.mv a)
  | .pick c x y => (rx c).bind fun a => (rx x).bind fun b => (rx y).bind fun d => some (.pick a b d)
  | .build t ps => (placesOf P t).bind fun pl => (zeroD P t).bind fun z => match z with
    | .agg zs => (rxP ps.toList).bind fun l => some (.build pl zs l)
    | _ => none
  | .load t x => (tiOf P t).bind fun ti => (rx x).bind fun a => some (.ld ti a)
  | .nilCheck x => (rx x).bind fun a => some (.nc a)
  | .binOp op t x y _ => (rx x).bind fun a => (rx y).bind fun b => some (.bin op (isBoolT P t) a b)
  | .unOp op _ x => (rx x).bind fun a => some (.un op a)
  | .convert s d x => (rx x).bind fun a => match eltOf P d with
    | some (e, _) => (okIf (isStrT P s && isBytesT P d)).bind fun _ => some (.s2b e a)
    | none => match intKindOf P d with
      | some k => (okIf (P.underlying s).isSome).bind fun _ => some (.cvi k a)
      | none => if isStrT P s = true then (okIf (isStrT P d)).bind fun _ => some (.cvs a) else (okIf (isBytesT P s && isStrT P d)).bind fun _ => some (.b2s a)
  | .slice t x lo hi mx => (rx x).bind fun a => (rxO lo).bind fun l => (rxO hi).bind fun r => (rxO mx).bind fun m => match arrOf P t with
    | some (n, ti) => (okIf (ti.size == 1 && mx.isNone)).bind fun _ => some (.slA n a l r)
    | none => if isStrT P t = true then (okIf mx.isNone).bind fun _ => some (.slS a l r) else (eltOf P t).bind fun q => some (.slL q.2.size a l r m)
  | .fieldAddr t x f => (fldOf P t f).bind fun q => (rx x).bind fun a => (okIf (!(q.2.size == 0))).bind fun _ => some (.fa q.1 a)
  | .field t x f => (fldOf P t f).bind fun q => (rx x).bind fun a => some (.fld q.2 q.1 a)
  | .indexAddr t x i => (rx x).bind fun a => (rx i).bind fun b => match eltOf P t with
    | some q => some (.iaS q.2.size a b)
    | none => (arrOf P t).bind fun q => some (.iaA q.1 q.2.size a b)
  | .index t x i => (rx x).bind fun a => (rx i).bind fun b => if isStrT P t = true then some (.ixS a b) else (arrOf P t).bind fun q => some (.ixA q.1 q.2 a b)
  | .extract x i => (rx x).bind fun a => some (.ext i a)
  | .makeInterface t x => (rx x).bind fun a => (okIf (concreteB P t)).bind fun _ => some (.mki t a)
  | .makeFunc (.func f) first cap => (rxL first.toList).bind fun a => (rxL cap.toList).bind fun b => some (.mkf f a b)
  | .store t p x => (tiOf P t).bind fun ti => (rx p).bind fun a => (rx x).bind fun b => some (.st ti a b)
  | .alloc t => (zeroD P t).bind fun z => (okIf z.good).bind fun _ => some (.al z)
  | .box _ x => (rx x).bind fun a => some (.bx a)
  | .buildSlice t len ps => (rowOf P t).bind fun q => (rxP ps.toList).bind fun l => (okIf (decide (l.map (·.1) = List.range' 0 len) && decide (len * q.2.1.size ≤ 2 ^ 24))).bind fun _ => some (.bsl q.1 q.2.1.size (l.map (·.2)))
  | .makeSlice t l c => (rowOf P t).bind fun q => (rx l).bind fun a => (rx c).bind fun b => some (.mks q.1 q.2.1.size q.2.1.bytes q.2.2 a b)
  | .range t x => (rx x).bind fun a => (okIf (isStrT P t)).bind fun _ => some (.rng a)
  | .next x true => (rx x).bind fun a => some (.nx a)
  | .call { callee := .value f, args, .. } => (rx f).bind fun a => (rxL args.toList).bind fun l => some (if dr = true then .pcall a l else .call a l)
  | .call { callee := .builtin .len, args, argTypes } => match args.toList, argTypes.toList with
    | [x], [t] => (rx x).bind fun a => if isStrT P t = true then some (.lenS a) else (eltOf P t).bind fun _ => some (.lenL a)
    | _, _ => none
  | .call { callee := .builtin .min, args, .. } => match args.toList with
    | [x, y] => (rx x).bind fun a => (rx y).bind fun b => some (.mn a b)
    | _ => none
  | .call { callee := .builtin .max, args, .. } => match args.toList with
    | [x, y] => (rx x).bind fun a => (rx y).bind fun b => some (.mx a b)
    | _ => none
  | .call { callee := .builtin .append, args, argTypes } => match args.toList, argTypes.toList with
    | [s, x], [t, xt] => (rowOf P t).bind fun q => (rx s).bind fun a => (rx x).bind fun b => (okIf (isSrcT P xt)).bind fun _ => some (.app q.1 q.2.1.size q.2.1.bytes a b)
    | _, _ => none
  | _ => none

/-- What an operation that is no call gives. -/
def EvC (P : Program) (op : Op) (g : Operand → Option D) (h : List Blk) (x : Option D) (h' : List Blk) : Prop :=
  if cls P op ≤ 1 then h' = h ∧ ∃ d, evR P op g h = some d ∧ x = some d else evW P op g h = some (x, h')

section
variable {P : Program} {t : Tm} {h : List Blk}

theorem bs {β γ : Type} {x : Option β} {f : β → Option γ} {r : γ} (h : x.bind f = some r) : ∃ a, x = some a ∧ f a = some r := by
  cases x with
  | none => cases h
  | some a => exact ⟨a, rfl, h⟩

theorem okIf_some {b : Bool} {u : Unit} (h : okIf b = some u) : b = true := by
  unfold okIf at h
  split at h
  · assumption
  · cases h

theorem rx_get {x : Operand} {a : Ox} (h : rx x = some a) : get t x = rd t a := by
  cases x with
  | tmp i => cases h; rfl
  | const v =>
    simp only [rx] at h
    split at h
    · rename_i d hd
      cases h
      exact hd
    · cases h
  | func f => cases h; rfl
  | global g => cases h

theorem rxL_get : ∀ (xs : List Operand) (l : List Ox), rxL xs = some l → mapG (get t) xs = rdL t l
  | [], l, h => by cases h; rfl
  | x :: xs, l, h => by
    obtain ⟨a, ha, h⟩ := bs h
    obtain ⟨l', hl, h⟩ := bs h
    cases h
    simp only [mapG, rdL, rx_get ha, rxL_get xs l' hl]
    rfl

theorem rxP_get : ∀ (xs : List (Nat × Operand)) (l : List (Nat × Ox)), rxP xs = some l → mapP (get t) xs = rdP t l
  | [], l, h => by cases h; rfl
  | (i, x) :: xs, l, h => by
    obtain ⟨a, ha, h⟩ := bs h
    obtain ⟨l', hl, h⟩ := bs h
    cases h
    simp only [mapP, rdP, rx_get ha, rxP_get xs l' hl]
    rfl

theorem rxO_get {x : Option Operand} {a : Option Ox} (h : rxO x = some a) : optG (get t) x = rdO t a := by
  cases x with
  | none => cases h; rfl
  | some x =>
    obtain ⟨b, hb, h⟩ := bs h
    cases h
    simp only [optG, rdO, rx_get hb]
    rfl

theorem rdP_split : ∀ (l : List (Nat × Ox)) (ds : List D), rdL t (l.map (·.2)) = some ds → ∃ ps, rdP t l = some ps ∧ ps.map (·.1) = l.map (·.1) ∧ ps.map (·.2) = ds
  | [], ds, h => by cases h; exact ⟨[], rfl, rfl, rfl⟩
  | (i, x) :: l, ds, h => by
    simp only [List.map_cons, rdL] at h
    split at h
    · cases h
    · rename_i d hd
      split at h
      · cases h
      · rename_i ds' hds
        cases h
        obtain ⟨ps, h1, h2, h3⟩ := rdP_split l ds' hds
        exact ⟨(i, d) :: ps, by simp only [rdP, hd, h1], by simp [h2], by simp [h3]⟩

/-- Of a reading operation. -/
theorem evC_r {op : Op} {g : Operand → Option D} {K : Option D → List Blk → Prop} (hc : cls P op ≤ 1) (h1 : ∃ d, evR P op g h = some d ∧ K (some d) h) : ∃ x h', EvC P op g h x h' ∧ K x h' := by
  obtain ⟨d, hd, hK⟩ := h1
  exact ⟨some d, h, by unfold EvC; rw [if_pos hc]; exact ⟨rfl, d, hd, rfl⟩, hK⟩

theorem evC_w {op : Op} {g : Operand → Option D} {K : Option D → List Blk → Prop} (hc : ¬ cls P op ≤ 1) (h1 : ∃ x h', evW P op g h = some (x, h') ∧ K x h') : ∃ x h', EvC P op g h x h' ∧ K x h' := by
  obtain ⟨x, h', hd, hK⟩ := h1
  exact ⟨x, h', by unfold EvC; rw [if_neg hc]; exact hd, hK⟩

end
end Go.Ab
