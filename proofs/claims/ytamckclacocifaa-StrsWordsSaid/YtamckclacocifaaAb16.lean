/- The model runs the writing operations as 'evW' says. States, contracts, operations of a region. -/
import Derived.Test.YtamckclacocifaaAb15
namespace Go.Ab

section
variable {P : Program} {B : Base} {α : List Value} {S : Nat → Prop} {h : List Blk} {w : World} {ρ : Operand → Value} {g : Operand → Option D}

/-- What an operation gives: a value for its slot, or nothing. -/
def Gives (α : List Value) (S : Nat → Prop) (w : World) : Next → Option D → Prop
  | .value v, some d => RepV α S w v d
  | .skip, none => True
  | _, _ => False

theorem evW_sound {o : Oper} {x : Option D} {h' : List Blk} (hd : evW P o.op g h = some (x, h')) (hg : ∀ x y, g x = some y → RepV α S w (ρ x) y) (m : Mem B α S h w) :
    ∃ nx w' α' S', (execOp ρ o).run P w = .ok nx w' ∧ Mem B α' S' h' w' ∧ Nx α S w α' S' w' ∧ Gives α' S' w' nx x := by
  obtain ⟨dst, op, type, pos, after, guard⟩ := o
  simp only at hd
  unfold evW at hd
  split at hd
  · split at hd
    · rename_i da dx ha hx
      split at hd
      · rename_i h1 hs
        cases hd
        obtain ⟨w', e1, e2, e3⟩ := storeD_sound hs m (hg _ _ ha) (hg _ _ hx)
        exact ⟨.skip, w', α, S, by simp [execOp, e1], e2, e3, trivial⟩
      · cases hd
    · cases hd
  · rename_i t
    split at hd
    · rename_i z hz
      split at hd
      · rename_i hgood
        cases hd
        obtain ⟨zv, e1, e2⟩ := zeroD_spec (w := w) (α := α) (S := S) hz
        obtain ⟨f1, f2, f3⟩ := newBox_sound (t := t) m hgood e2
        exact ⟨.value _, _, _, S, by simp [execOp, Instr.alloc, e1, run_newVar], f1, f2, f3⟩
      · cases hd
    · cases hd
  · rename_i t x
    split at hd
    · rename_i dx hx
      split at hd
      · rename_i hgood
        cases hd
        obtain ⟨f1, f2, f3⟩ := newBox_sound (t := t) m hgood (hg _ _ hx)
        exact ⟨.value _, _, _, S, by simp [execOp, Instr.box, run_newVar], f1, f2, f3⟩
      · cases hd
    · cases hd
  · rename_i t len ps
    split at hd
    · rename_i l hl
      split at hd
      · rename_i d h1 hb
        cases hd
        obtain ⟨g1, g2⟩ := mapP_rep hg _ _ hl
        obtain ⟨v, w', α', S', e1, e2, e3, e4⟩ := buildSliceD_sound (vps := ps.map fun (i, x) => (i, ρ x)) hb m (by rw [← g1]; simp [Function.comp_def]) (by simpa [Function.comp_def] using g2)
        exact ⟨.value v, w', α', S', by simp [execOp, e1], e2, e3, e4⟩
      · cases hd
    · cases hd
  · split at hd
    · rename_i dl dc hl hc
      split at hd
      · rename_i d h1 hb
        cases hd
        obtain ⟨v, w', α', e1, e2, e3, e4⟩ := makeSliceD_sound hb m (hg _ _ hl) (hg _ _ hc)
        exact ⟨.value v, w', α', S, by simp [execOp, e1], e2, e3, e4⟩
      · cases hd
    · cases hd
  · rename_i src dst' x
    split at hd
    · rename_i s hx
      split at hd
      · rename_i d h1 hb
        cases hd
        obtain ⟨v, w', α', e1, e2, e3, e4⟩ := bytesOfD_sound hb m
        have hv : ρ x = .string ⟨s.toArray⟩ := by
          have := hg _ _ hx
          generalize ρ x = v at this
          cases this
          rfl
        exact ⟨.value v, w', α', S, by simp [execOp, hv, e1], e2, e3, e4⟩
      · cases hd
    · cases hd
  · rename_i t x lo hi
    split at hd
    · rename_i id off l k hx hl hk
      split at hd
      · rename_i d h1 hb
        cases hd
        obtain ⟨v, S', e1, e2, e3, e4⟩ := arrSliceD_sound hb m (hg _ _ hx) (optG_rep hg hl) (optG_rep hg hk)
        exact ⟨.value v, w, α, S', by simp [execOp, e1], e2, e3, e4⟩
      · cases hd
    · cases hd
  · rename_i t x
    split at hd
    · rename_i s hx
      split at hd
      · rename_i ht
        cases hd
        obtain ⟨v, w', α', e1, e2, e3, e4⟩ := rangeD_sound ht m (s := s)
        have hv : ρ x = .string ⟨s.toArray⟩ := by
          have := hg _ _ hx
          generalize ρ x = v at this
          cases this
          rfl
        exact ⟨.value v, w', α', S, by simp [execOp, hv, e1], e2, e3, e4⟩
      · cases hd
    · cases hd
  · split at hd
    · rename_i d hx
      split at hd
      · rename_i d' h1 hb
        cases hd
        obtain ⟨v, w', e1, e2, e3, e4⟩ := nextD_sound (P := P) (ty := type) hb m (hg _ _ hx)
        exact ⟨.value v, w', α, S, by simp [execOp, e1], e2, e3, e4⟩
      · cases hd
    · cases hd
  · rename_i args argTypes
    split at hd
    · rename_i s x t xt hds hts
      split at hd
      · rename_i d h1 hb
        cases hd
        have hr := mapG_rep hg _ _ hds
        obtain ⟨v1, v2, e0, r1, r2⟩ := hr.two
        obtain ⟨v, w', α', e1, e2, e3, e4⟩ := appendD_sound (ty := type) hb m r1 r2
        refine ⟨.value v, w', α', S, ?_, e2, e3, e4⟩
        have ea : args.map ρ = #[v1, v2] := by apply Array.ext'; simpa using e0
        have et : argTypes = #[t, xt] := by apply Array.ext'; simpa using hts
        subst et
        simp only [execOp, resolve, Sem.run_bind, Sem.run_pure, Result.andThen_ok, invoke, ea, builtin, e1]
      · cases hd
    · cases hd
  · cases hd

end
end Go.Ab
