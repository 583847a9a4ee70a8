/- All operations that write nothing, in one: 'evR', and that the model runs them so. -/
import Derived.Test.YtamckclacocifaaAb7
namespace Go.Ab

def mapG (g : Operand → Option D) : List Operand → Option (List D)
  | [] => some []
  | x :: xs => match g x with
    | none => none
    | some d => match mapG g xs with
      | none => none
      | some ds => some (d :: ds)

def mapP (g : Operand → Option D) : List (Nat × Operand) → Option (List (Nat × D))
  | [] => some []
  | (i, x) :: xs => match g x with
    | none => none
    | some d => match mapP g xs with
      | none => none
      | some ds => some ((i, d) :: ds)

/-- An operand that may be left out: 'none' where it is there and unknown. -/
def optG (g : Operand → Option D) : Option Operand → Option (Option D)
  | none => some none
  | some x => match g x with
    | none => none
    | some d => some (some d)

def notNil : D → Bool
  | .pd _ | .ptr _ _ | .eptr _ _ _ _ _ | .fn _ _ _ | .iface _ _ => true
  | _ => false

def evB (P : Program) (b : Builtin) (ts : List TypeId) (ds : List D) : Option D :=
  match b with
  | .len => match ts, ds with
    | [t], [x] => lenD P t x
    | _, _ => none
  | .min => minD ds
  | .max => maxD ds
  | _ => none

def concreteB (P : Program) (t : TypeId) : Bool := P.concrete t

def evR (P : Program) (op : Op) (g : Operand → Option D) (h : List Blk) : Option D :=
  match op with
  | .move x => g x
  | .assign x => g x
  | .pick c a b => match g c with
    | some (.bool p) => if p = true then g a else g b
    | _ => none
  | .build t ps => match mapP g ps.toList with
    | some l => buildD P t l
    | none => none
  | .load t a => match g a with
    | some x => loadD P t x h
    | none => none
  | .nilCheck x => match g x with
    | some d => if notNil d = true then some d else none
    | none => none
  | .binOp op t x y _ => match g x, g y with
    | some a, some b => binD P op t a b
    | _, _ => none
  | .unOp op _ x => match g x with
    | some a => unD op a
    | none => none
  | .convert src dst x => match g x with
    | some a => convR P src dst a h
    | none => none
  | .slice t x lo hi mx => match g x, optG g lo, optG g hi, optG g mx with
    | some a, some l, some h, some m => sliceD P t a l h m
    | _, _, _, _ => none
  | .fieldAddr t x f => match g x with
    | some a => fieldAddrD P t f a
    | none => none
  | .field t x f => match g x with
    | some a => fieldD P t f a
    | none => none
  | .indexAddr t x i => match g x, g i with
    | some a, some b => indexAddrD P t a b h
    | _, _ => none
  | .index t x i => match g x, g i with
    | some a, some b => indexD P t a b
    | _, _ => none
  | .extract x i => match g x with
    | some a => extractD a i
    | none => none
  | .makeInterface t x => match g x with
    | some a => if concreteB P t = true then some (.iface t a) else none
    | none => none
  | .makeFunc (.func f) first cap => match mapG g first.toList, mapG g cap.toList with
    | some a, some b => some (.fn f a b)
    | _, _ => none
  | .call { callee := .builtin b, args, argTypes } => match mapG g args.toList with
    | some ds => evB P b argTypes.toList ds
    | none => none
  | _ => none

section
variable {P : Program} {α : List Value} {S : Nat → Prop} {w : World} {ρ : Operand → Value} {g : Operand → Option D}

theorem RepV.bool_inv {v : Value} {p : Bool} (h : RepV α S w v (.bool p)) : v = .bool p := by
  cases h; rfl

theorem mapG_rep (hg : ∀ x y, g x = some y → RepV α S w (ρ x) y) : ∀ (xs : List Operand) (ds : List D), mapG g xs = some ds → RepL α S w (xs.map ρ) ds
  | [], ds, h => by cases h; exact .nil
  | x :: xs, ds, h => by
    unfold mapG at h
    split at h
    · cases h
    · rename_i d hd
      split at h
      · cases h
      · rename_i ds' hds
        cases h
        exact .cons (hg x d hd) (mapG_rep hg xs ds' hds)

theorem mapP_rep (hg : ∀ x y, g x = some y → RepV α S w (ρ x) y) : ∀ (xs : List (Nat × Operand)) (ds : List (Nat × D)), mapP g xs = some ds →
    xs.map (·.1) = ds.map (·.1) ∧ RepL α S w (xs.map fun p => ρ p.2) (ds.map (·.2))
  | [], ds, h => by cases h; exact ⟨rfl, .nil⟩
  | (i, x) :: xs, ds, h => by
    unfold mapP at h
    split at h
    · cases h
    · rename_i d hd
      split at h
      · cases h
      · rename_i ds' hds
        cases h
        obtain ⟨h1, h2⟩ := mapP_rep hg xs ds' hds
        exact ⟨by simp [h1], .cons (hg x d hd) h2⟩

theorem optG_rep (hg : ∀ x y, g x = some y → RepV α S w (ρ x) y) {x : Option Operand} {d : Option D} (h : optG g x = some d) : RepO α S w (x.map ρ) d := by
  cases x with
  | none => cases h; trivial
  | some x =>
    simp only [optG] at h
    split at h
    · cases h
    · rename_i d' hd
      cases h
      exact hg x d' hd

theorem evB_sound {b : Builtin} {ts : Array TypeId} {ty : TypeId} {cs : Array Bool} {ds : List D} {d : D} {vs : List Value} (h : evB P b ts.toList ds = some d) (hr : RepL α S w vs ds) :
    ∃ v, (builtin b ts ty cs vs.toArray).run P w = .ok (.value v) w ∧ RepV α S w v d := by
  unfold evB at h
  split at h
  · split at h
    · rename_i t x hts
      have : ts = #[t] := by apply Array.ext'; simpa using hts
      subst this
      obtain ⟨v, rfl, hv⟩ := hr.one
      obtain ⟨u, hu, hd⟩ := lenD_sound (ty := ty) h hv
      exact ⟨u, by simp [builtin, hu], hd⟩
    · cases h
  · obtain ⟨u, hu, hd⟩ := minD_sound (P := P) (ts := ts) (ty := ty) h hr
    exact ⟨u, by simp [builtin, hu], hd⟩
  · obtain ⟨u, hu, hd⟩ := maxD_sound (P := P) (ts := ts) (ty := ty) h hr
    exact ⟨u, by simp [builtin, hu], hd⟩
  · cases h

theorem lift_v {s : Sem Value} {d : D} (h : ∃ v, s.run P w = .ok v w ∧ RepV α S w v d) : ∃ v, (do pure (.value (← s)) : Sem Next).run P w = .ok (.value v) w ∧ RepV α S w v d := by
  obtain ⟨v, hv, hd⟩ := h
  exact ⟨v, by simp [hv], hd⟩

theorem evR_sound {o : Oper} {h : List Blk} {d : D} (hd : evR P o.op g h = some d) (hg : ∀ x y, g x = some y → RepV α S w (ρ x) y) (rh : RepH α S h w) :
    ∃ v, (execOp ρ o).run P w = .ok (.value v) w ∧ RepV α S w v d := by
  obtain ⟨dst, op, type, pos, after, guard⟩ := o
  simp only at hd
  unfold evR at hd
  split at hd
  · exact ⟨_, rfl, hg _ _ hd⟩
  · exact ⟨_, rfl, hg _ _ hd⟩
  · rename_i c a b
    split at hd
    · rename_i p hc
      have hb : ρ c = .bool p := (hg _ _ hc).bool_inv
      split at hd
      · rename_i hp
        exact ⟨ρ a, by simp [execOp, hb, hp, asBool], hg _ _ hd⟩
      · rename_i hp
        exact ⟨ρ b, by simp [execOp, hb, hp, asBool], hg _ _ hd⟩
    · cases hd
  · rename_i t ps
    split at hd
    · rename_i l hl
      obtain ⟨h1, h2⟩ := mapP_rep hg _ _ hl
      exact lift_v (buildD_sound hd (by rw [← h1]; simp [Function.comp_def]) (by simpa [Function.comp_def] using h2))
    · cases hd
  · split at hd
    · rename_i x hx
      exact lift_v (loadD_sound hd (hg _ _ hx) rh)
    · cases hd
  · rename_i x
    split at hd
    · rename_i d' hx
      split at hd
      · rename_i hn
        cases hd
        have hr := hg _ _ hx
        refine ⟨ρ x, ?_, hr⟩
        simp only [execOp]
        generalize ρ x = v at hr
        cases hr <;> first
          | (cases hn; done)
          | skip
        case pd => rfl
        case ptr => rfl
        case eptr h1 h2 h3 h4 h5 => obtain ⟨y, rfl⟩ := h4; rfl
        case fn => rfl
        case iface => rfl
      · cases hd
    · cases hd
  · split at hd
    · rename_i a b ha hb
      exact lift_v (binD_sound _ _ _ _ hd (hg _ _ ha) (hg _ _ hb))
    · cases hd
  · split at hd
    · rename_i a ha
      exact lift_v (unD_sound _ hd (hg _ _ ha))
    · cases hd
  · split at hd
    · rename_i a ha
      exact lift_v (convR_sound _ _ hd (hg _ _ ha) rh)
    · cases hd
  · split at hd
    · rename_i a l h' m ha hl hh hm
      exact lift_v (sliceD_sound hd (hg _ _ ha) (optG_rep hg hl) (optG_rep hg hh) (optG_rep hg hm))
    · cases hd
  · split at hd
    · rename_i a ha
      exact lift_v (fieldAddrD_sound hd (hg _ _ ha))
    · cases hd
  · split at hd
    · rename_i a ha
      exact lift_v (fieldD_sound hd (hg _ _ ha))
    · cases hd
  · split at hd
    · rename_i a b ha hb
      exact lift_v (indexAddrD_sound hd (hg _ _ ha) (hg _ _ hb) rh)
    · cases hd
  · split at hd
    · rename_i a b ha hb
      exact lift_v (indexD_sound hd (hg _ _ ha) (hg _ _ hb))
    · cases hd
  · split at hd
    · rename_i a ha
      exact lift_v (extractD_sound hd (hg _ _ ha))
    · cases hd
  · rename_i t x
    split at hd
    · rename_i a ha
      split at hd
      · rename_i hc
        cases hd
        exact lift_v ⟨_, run_makeInterface w t (ρ x) hc, .iface _ _ _ (hg _ _ ha)⟩
      · cases hd
    · cases hd
  · rename_i f first cap
    split at hd
    · rename_i a b ha hb
      cases hd
      have h1 := mapG_rep hg _ _ ha
      have h2 := mapG_rep hg _ _ hb
      refine lift_v ⟨.func (.func f) (first.map ρ) (cap.map ρ), rfl, .fn f _ _ a b (by simpa using h1.1) (by simpa using h2.1) (fun i v c e1 e2 => h1.2 i v c ?_ e2) (fun i v c e1 e2 => h2.2 i v c ?_ e2)⟩
      · simpa using e1
      · simpa using e1
    · cases hd
  · rename_i b args argTypes
    split at hd
    · rename_i ds hds
      have h1 := mapG_rep hg _ _ hds
      obtain ⟨v, hv, hr⟩ := evB_sound (ty := type) (cs := args.map fun | .const _ => true | _ => false) hd h1
      refine ⟨v, ?_, hr⟩
      simp only [execOp, resolve, Sem.run_bind, Sem.run_pure, Result.andThen_ok, invoke]
      have e : (args.toList.map ρ).toArray = args.map ρ := by apply Array.ext'; simp
      rw [e] at hv
      exact hv
    · cases hd
  · cases hd

end
end Go.Ab
