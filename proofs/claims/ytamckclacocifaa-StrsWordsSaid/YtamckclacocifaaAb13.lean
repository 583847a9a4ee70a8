/- append, make. -/
import Derived.Test.YtamckclacocifaaAb12
namespace Go.Ab

/-- May append read it? -/
def isSrcT (P : Program) (t : TypeId) : Bool :=
  match P.underlying t with
  | some (.slice _) => true
  | some .string => true
  | _ => false

def appendD (P : Program) (t xt : TypeId) (s x : D) (h : List Blk) : Option (D × List Blk) :=
  match rowOf P t with
  | none => none
  | some (e, i, _) => if isSrcT P xt = true then
      (match srcD x h with
      | none => none
      | some ys => if szAll i.size ys = true ∧ goodAll ys = true then
          (match s with
          | .nils => if ys.length * i.bytes ≤ 140737488355328 ∧ ys.length ≤ 4611686018427387904 then some (.ref h.length ys.length, h ++ [.slice i.size e ys]) else none
          | .ref id n => (match h[id]? with
            | some (.slice esz ty xs) => if esz = i.size ∧ ty = e ∧ xs.length = n ∧ (n + ys.length) * i.bytes ≤ 140737488355328 ∧ n + ys.length ≤ 4611686018427387904 then
                some (.ref id (n + ys.length), h.set id (.slice esz ty (xs ++ ys))) else none
            | _ => none)
          | _ => none)
        else none)
    else none

section
variable {P : Program} {B : Base} {α : List Value} {S : Nat → Prop} {h : List Blk} {w : World}

theorem isSrcT_spec {t : TypeId} (h : isSrcT P t = true) : (∃ e, P.underlying t = some (.slice e)) ∨ P.underlying t = some .string := by
  unfold isSrcT at h
  split at h
  · rename_i e he; exact .inl ⟨e, he⟩
  · rename_i he; exact .inr he
  · cases h

/-- append's two ways. -/
theorem run_append_fits {t xt ty e : TypeId} {i : TI} (u1 : P.underlying t = some (.slice e)) (u2 : tiOf P e = some i) (hxt : isSrcT P xt = true) {base : Option Addr} {n cap k : Nat} {vx : Value} {vs : Array Value} {w' : World}
    (hlen : (Builtin.lenOf vx).run P w = .ok k w) (hcells : (Builtin.firstCells i.size k vx).run P w = .ok vs w) (hfit : n + k ≤ cap)
    (hst : ((match base with
      | some a => storeCells (a.add (n * i.size)) vs.toList
      | none => pure () : Sem Unit)).run P w = .ok () w') :
    (Builtin.append_ #[t, xt] ty #[.slice base n cap, vx]).run P w = .ok (.slice base (n + k) cap) w' := by
  rcases isSrcT_spec hxt with ⟨e', hd⟩ | hd
  all_goals
    simp only [Builtin.append_, List.getElem?_toArray, List.getElem?_cons_zero, List.getElem?_cons_succ, Sem.run_bind, run_underlying u1, Result.andThen_ok, run_sizeOf' u2, run_underlying hd, Sem.run_pure]
    simp only [Bool.false_eq_true, if_false, hlen, Result.andThen_ok, hfit, if_true, Bool.not_false, Sem.run_bind, hcells]
    cases base with
    | none => simp only at hst; cases hst; rfl
    | some a => simp only [Sem.run_bind] at hst ⊢; rw [hst]; rfl

theorem run_append_grows {t xt ty e : TypeId} {i : TI} (u1 : P.underlying t = some (.slice e)) (u2 : tiOf P e = some i) (hxt : isSrcT P xt = true) {inf : TypeInfo} {zv : Value} (v1 : P.info? e = some inf) (v2 : inf.zero = some zv) (v4 : inf.bytes = i.bytes)
    {base : Option Addr} {n cap k : Nat} {vx : Value} {vs os : Array Value}
    (hlen : (Builtin.lenOf vx).run P w = .ok k w) (hold : (Builtin.firstCells i.size n (.slice base n cap)).run P w.drew = .ok os w.drew) (hcells : (Builtin.firstCells i.size k vx).run P w.drew = .ok vs w.drew) (hfit : ¬ n + k ≤ cap)
    (hsmall : n + k ≤ 4611686018427387904) (hbytes : (n + k) * i.bytes ≤ 140737488355328) :
    (Builtin.append_ #[t, xt] ty #[.slice base n cap, vx]).run P w =
      .ok (.slice (some ⟨w.heap.size, 0, none⟩) (n + k) (grownCap w (n + k) cap e)) (w.drew.alloc (.cells (os ++ vs ++ Builtin.zeroCells zv.cells (grownCap w (n + k) cap e - (n + k))) e)) := by
  have h1 : ¬ (((n + k : Nat) : Int) > IntKind.i64.max ∧ (false = true ∨ inf.bytes = 0)) := by
    rintro ⟨a, _⟩
    have : IntKind.i64.max = 9223372036854775807 := by decide
    rw [this] at a
    omega
  have h2 : ¬ (Builtin.nextslicecap (n + k) cap * inf.bytes > 2 ^ 48) := by
    rw [v4]
    have := growslice_fits (need := n + k) (old := cap) (bytes := i.bytes) (by omega) hbytes
    omega
  have hq : (Question.appendCap (n + k) cap e).forced = false := rfl
  have hti : ∀ w : World, (typeInfo e).run P w = .ok inf w := fun w => by simp [typeInfo, v1]
  have hzv : ∀ w : World, (zeroValue e).run P w = .ok zv w := fun w => by simp [zeroValue, typeInfo, v1, v2]
  simp only [Bool.false_eq_true] at h1
  rcases isSrcT_spec hxt with ⟨e', hd⟩ | hd
  all_goals
    simp only [Builtin.append_, List.getElem?_toArray, List.getElem?_cons_zero, List.getElem?_cons_succ, Sem.run_bind, run_underlying u1, Result.andThen_ok, run_sizeOf' u2, run_underlying hd, Sem.run_pure]
    simp only [Bool.false_eq_true, if_false, hlen, Result.andThen_ok, hfit, Bool.not_false, if_true, Sem.run_bind]
    simp only [hti, Result.andThen_ok, h1, if_false, h2, Sem.run_bind, run_choose, hq, Bool.false_eq_true, World.drew_eq, run_askRoom, hold, hcells, hzv, newRow, run_newObj, World.alloc_eq, Sem.run_pure]
    rfl

end
end Go.Ab
