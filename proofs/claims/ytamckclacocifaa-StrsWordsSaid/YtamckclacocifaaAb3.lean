/- The operations of the engine that write nothing: what they give on abstract data, and that the model's operations give just that. -/
import Derived.Test.YtamckclacocifaaAb2
namespace Go.Ab

structure TI where
  size : Nat
  agg : Bool
  bytes : Nat
  deriving DecidableEq

def isAggD : TypeDesc → Bool
  | .struct _ | .array _ _ => true
  | _ => false

def tiOf (P : Program) (t : TypeId) : Option TI :=
  match P.info? t with
  | none => none
  | some i =>
    match P.underlying t with
    | none => none
    | some d => some ⟨i.size, isAggD d, i.bytes⟩

def eltOf (P : Program) (t : TypeId) : Option (TypeId × TI) :=
  match P.underlying t with
  | some (.slice e) => match tiOf P e with
    | some i => some (e, i)
    | none => none
  | _ => none

def arrOf (P : Program) (t : TypeId) : Option (Nat × TI) :=
  match P.underlying t with
  | some (.array n e) => match tiOf P e with
    | some i => some (n, i)
    | none => none
  | _ => none

def fldOf (P : Program) (t : TypeId) (f : Nat) : Option (Nat × TI) :=
  match P.underlying t with
  | some (.struct fs) => match fs[f]? with
    | some fd => match tiOf P fd.type with
      | some i => some (fd.offset, i)
      | none => none
    | none => none
  | _ => none

section
variable {P : Program} {w : World} {t : TypeId} {i : TI}

theorem tiOf_spec (h : tiOf P t = some i) : ∃ inf d, P.info? t = some inf ∧ P.underlying t = some d ∧ i = ⟨inf.size, isAggD d, inf.bytes⟩ := by
  unfold tiOf at h
  split at h
  · cases h
  · rename_i inf h1
    split at h
    · cases h
    · rename_i d h2
      cases h
      exact ⟨inf, d, h1, h2, rfl⟩

theorem run_sizeOf' (h : tiOf P t = some i) : (sizeOf t).run P w = .ok i.size w := by
  obtain ⟨inf, d, h1, h2, rfl⟩ := tiOf_spec h
  simp [sizeOf, typeInfo, h1]

theorem run_isAgg' (h : tiOf P t = some i) : (isAgg t).run P w = .ok i.agg w := by
  obtain ⟨inf, d, h1, h2, rfl⟩ := tiOf_spec h
  simp only [isAgg, Sem.run_bind, run_underlying h2, Result.andThen_ok]
  cases d <;> rfl

theorem eltOf_spec {e : TypeId} (h : eltOf P t = some (e, i)) : P.underlying t = some (.slice e) ∧ tiOf P e = some i := by
  unfold eltOf at h
  split at h
  · rename_i e' h1
    split at h
    · rename_i i' h2
      cases h
      exact ⟨h1, h2⟩
    · cases h
  · cases h

theorem arrOf_spec {n : Nat} (h : arrOf P t = some (n, i)) : ∃ e, P.underlying t = some (.array n e) ∧ tiOf P e = some i := by
  unfold arrOf at h
  split at h
  · rename_i n' e' h1
    split at h
    · rename_i i' h2
      cases h
      exact ⟨e', h1, h2⟩
    · cases h
  · cases h

theorem fldOf_spec {f o : Nat} (h : fldOf P t f = some (o, i)) : ∃ fs fd, P.underlying t = some (.struct fs) ∧ fs[f]? = some fd ∧ fd.offset = o ∧ tiOf P fd.type = some i := by
  unfold fldOf at h
  split at h
  · rename_i fs h1
    split at h
    · rename_i fd h2
      split at h
      · rename_i i' h3
        cases h
        exact ⟨fs, fd, h1, h2, rfl, h3⟩
      · cases h
    · cases h
  · cases h

end

/-- A constant as data. -/
def leafD : Value → Option D
  | .int k n => some (.int k n)
  | .bool b => some (.bool b)
  | .string s => some (.str s.data.toList)
  | .slice none 0 0 => some .nils
  | .pointer none => some .nilp
  | .nilFunc => some .nilf
  | .nilIface => some .nili
  | .map none => some .nilm
  | _ => none

def leavesD : List Value → Option (List D)
  | [] => some []
  | v :: vs => match leafD v with
    | none => none
    | some d => match leavesD vs with
      | none => none
      | some ds => some (d :: ds)

def constD : Value → Option D
  | .agg cs => match leavesD cs.toList with
    | some ds => some (.agg ds)
    | none => none
  | v => leafD v

section
variable {α : List Value} {S : Nat → Prop} {w : World}

theorem RepV.str' (s : ByteArray) : RepV α S w (.string s) (.str s.data.toList) := by
  have := RepV.str (α := α) (S := S) (w := w) s.data.toList
  simpa using this

theorem leafD_rep {v : Value} {d : D} (h : leafD v = some d) : RepV α S w v d ∧ d.leaf = true := by
  unfold leafD at h
  split at h
  all_goals (first | (cases h; done) | skip)
  all_goals (injection h with h; subst h; refine ⟨?_, rfl⟩)
  · exact .int _ _
  · exact .bool _
  · exact .str' _
  · exact .nils
  · exact .nilp
  · exact .nilf
  · exact .nili
  · exact .nilm

theorem leavesD_rep : ∀ (vs : List Value) (ds : List D), leavesD vs = some ds →
    vs.length = ds.length ∧ (∀ c ∈ ds, c.leaf = true) ∧ ∀ (i : Nat) (v : Value) (c : D), vs[i]? = some v → ds[i]? = some c → RepV α S w v c
  | [], ds, h => by cases h; exact ⟨rfl, fun _ h => (by cases h), fun i v c h => (by simp at h)⟩
  | v :: vs, ds, h => by
    unfold leavesD at h
    split at h
    · cases h
    · rename_i d hd
      split at h
      · cases h
      · rename_i ds' hds
        cases h
        obtain ⟨h1, h2, h3⟩ := leavesD_rep vs ds' hds
        obtain ⟨g1, g2⟩ := leafD_rep (α := α) (S := S) (w := w) hd
        refine ⟨by simp [h1], fun c hc => ?_, fun i v' c e1 e2 => ?_⟩
        · rcases List.mem_cons.1 hc with rfl | hc
          · exact g2
          · exact h2 c hc
        · cases i with
          | zero => simp at e1 e2; subst e1; subst e2; exact g1
          | succ i => exact h3 i v' c (by simpa using e1) (by simpa using e2)

theorem constD_rep {v : Value} {d : D} (h : constD v = some d) : RepV α S w v d := by
  unfold constD at h
  split at h
  · rename_i cs
    split at h
    · rename_i ds hds
      cases h
      obtain ⟨h1, h2, h3⟩ := leavesD_rep (α := α) (S := S) (w := w) _ _ hds
      exact .agg cs ds (by simpa using h1) h2 fun i v c e1 e2 => h3 i v c (by simpa using e1) e2
    · cases h
  · exact (leafD_rep h).1

theorem RepV.oneCell {v : Value} {d : D} (h : RepV α S w v d) (hd : d.leaf = true) : v.oneCell' = true := by
  cases h with
  | agg => cases hd
  | tup => cases hd
  | ref id n k v a h hk hn hs hv => cases v <;> first | rfl | cases hs
  | eptr id n k esz i off v a h hk hn hp hv => obtain ⟨x, rfl⟩ := hp; rfl
  | hnd id v h hs hl => exact hl
  | undef => cases hd
  | _ => rfl

theorem cells_one {v : Value} (h : v.oneCell' = true) : v.cells = #[v] := by
  cases v <;> first | rfl | cases h

theorem D.cells_leaf {d : D} (h : d.leaf = true) : d.cells = [d] := by
  cases d <;> first | rfl | cases h

/-- The cells of a value stand for the cells of the data. -/
theorem RepV.cellsOf {v : Value} {d : D} (h : RepV α S w v d) (hg : d.good = true) : v.cells.size = d.cells.length ∧
    ∀ (i : Nat) (u : Value) (c : D), v.cells[i]? = some u → d.cells[i]? = some c → RepV α S w u c := by
  by_cases hl : d.leaf = true
  · rw [cells_one (h.oneCell hl), D.cells_leaf hl]
    refine ⟨rfl, fun i u c f1 f2 => ?_⟩
    cases i with
    | zero => simp at f1 f2; subst f1; subst f2; exact h
    | succ i => simp at f1
  · cases h with
    | agg vs cs hs hl hc => exact ⟨hs, hc⟩
    | tup => cases hg
    | undef => cases hg
    | _ => exact absurd rfl hl

end
end Go.Ab
