/- Slices of strings and slices, lengths, least and greatest, bytes as strings, structs and arrays put together; all of the operations that write nothing, in one. -/
import Derived.Test.YtamckclacocifaaAb5
namespace Go.Ab

def bnd (d : Option D) (dflt up : Nat) : Option Nat :=
  match d with
  | none => some dflt
  | some (.int _ n) => if 0 ≤ n ∧ n ≤ (up : Int) then some n.toNat else none
  | some _ => none

def sliceD (P : Program) (t : TypeId) (x : D) (lo hi mx : Option D) : Option D :=
  match x with
  | .str s => if isStrT P t = true ∧ mx.isNone = true then (match bnd hi s.length s.length with
    | some h => match bnd lo 0 h with
      | some l => some (.str ((s.drop l).take (h - l)))
      | none => none
    | none => none) else none
  | .list xs => match eltOf P t with
    | some (_, ti) => if szAll ti.size xs = true ∧ (mx.isSome = true → hi.isSome = true) then (match bnd mx xs.length xs.length with
      | some m => match bnd hi xs.length m with
        | some h => match bnd lo 0 h with
          | some l => some (.list ((xs.drop l).take (h - l)))
          | none => none
        | none => none
      | none => none) else none
    | none => none
  | _ => none

section
variable {P : Program} {α : List Value} {S : Nat → Prop} {w : World}

/-- An operand that may be left out. -/
def RepO (α : List Value) (S : Nat → Prop) (w : World) (v : Option Value) (d : Option D) : Prop :=
  match v, d with
  | none, none => True
  | some v, some d => RepV α S w v d
  | _, _ => False

theorem bnd_some {d : Option D} {dflt up r : Nat} (h : bnd d dflt up = some r) : (d = none ∧ r = dflt) ∨ ∃ k n, d = some (.int k n) ∧ 0 ≤ n ∧ n ≤ (up : Int) ∧ r = n.toNat := by
  unfold bnd at h
  split at h
  · cases h; exact .inl ⟨rfl, rfl⟩
  · rename_i k n
    split at h
    · rename_i hb; cases h; exact .inr ⟨k, n, rfl, hb.1, hb.2, rfl⟩
    · cases h
  · cases h

theorem RepO.int {v : Option Value} {k : IntKind} {n : Int} (h : RepO α S w v (some (.int k n))) : v = some (.int k n) := by
  cases v with
  | none => cases h
  | some v => cases h; rfl

theorem RepO.none_ {v : Option Value} (h : RepO α S w v none) : v = none := by
  cases v with
  | none => rfl
  | some v => cases h

theorem low_run (vlo : Option Value) {h l : Nat} (code : BoundsCode) (r : Nat) : ((vlo = none ∧ l = 0) ∨ ∃ k n, vlo = some (.int k n) ∧ 0 ≤ n ∧ n ≤ (h : Int) ∧ l = n.toNat) →
    ((match vlo with
      | some v => do
        let l ← Instr.sliceBound v h code
        pure (l, h, r)
      | none => do
        let l ← pure 0
        pure (l, h, r) : Sem (Nat × Nat × Nat))).run P w = .ok (l, h, r) w := by
  intro hv
  rcases hv with ⟨rfl, rfl⟩ | ⟨k, n, rfl, a, b, rfl⟩
  · rfl
  · simp only [Sem.run_bind, run_sliceBound w k n h code a b, Result.andThen_ok, Sem.run_pure]

theorem low_cases {vlo : Option Value} {lo : Option D} {h l : Nat} (el : (lo = none ∧ l = 0) ∨ ∃ k n, lo = some (.int k n) ∧ 0 ≤ n ∧ n ≤ (h : Int) ∧ l = n.toNat) (rlo : RepO α S w vlo lo) :
    (vlo = none ∧ l = 0) ∨ ∃ k n, vlo = some (.int k n) ∧ 0 ≤ n ∧ n ≤ (h : Int) ∧ l = n.toNat := by
  rcases el with ⟨rfl, e⟩ | ⟨k, n, rfl, a, b, e⟩
  · exact .inl ⟨rlo.none_, e⟩
  · exact .inr ⟨k, n, rlo.int, a, b, e⟩

/-- The bounds of a slice expression. -/
theorem bounds_sound {sl : Bool} {len cap m h l : Nat} (hlc : len ≤ cap) {lo hi mx : Option D} {vlo vhi vmx : Option Value} (rlo : RepO α S w vlo lo) (rhi : RepO α S w vhi hi) (rmx : RepO α S w vmx mx)
    (h1 : bnd mx len len = some m) (h2 : bnd hi len m = some h) (h3 : bnd lo 0 h = some l) (hs : mx.isSome = true → hi.isSome = true) :
    ∃ m', (Instr.sliceBounds sl len cap vlo vhi vmx).run P w = .ok (l, h, m') w ∧ l ≤ h ∧ h ≤ len ∧ h ≤ m' ∧ m' ≤ cap := by
  have el : l ≤ h ∧ ((lo = none ∧ l = 0) ∨ ∃ k n, lo = some (.int k n) ∧ 0 ≤ n ∧ n ≤ (h : Int) ∧ l = n.toNat) := by
    rcases bnd_some h3 with ⟨rfl, rfl⟩ | ⟨k, n, rfl, a, b, rfl⟩
    · exact ⟨by omega, .inl ⟨rfl, rfl⟩⟩
    · exact ⟨by omega, .inr ⟨k, n, rfl, a, b, rfl⟩⟩
  rcases bnd_some h1 with ⟨rfl, rfl⟩ | ⟨k, n, rfl, a, b, rfl⟩
  · have e0 := rmx.none_
    subst e0
    rcases bnd_some h2 with ⟨rfl, rfl⟩ | ⟨k', n', rfl, a', b', rfl⟩
    · have e1 := rhi.none_
      subst e1
      refine ⟨cap, ?_, el.1, by clear el; omega, by clear el; omega, by clear el; omega⟩
      simp only [Instr.sliceBounds, Sem.run_bind, Sem.run_pure, Result.andThen_ok]
      exact low_run vlo _ _ (low_cases el.2 rlo)
    · have e1 := rhi.int
      subst e1
      refine ⟨cap, ?_, el.1, by clear el; omega, by clear el; omega, by clear el; omega⟩
      simp only [Instr.sliceBounds, Sem.run_bind, Sem.run_pure, Result.andThen_ok]
      rw [run_sliceBound w k' n' cap _ a' (by omega)]
      simp only [Result.andThen_ok]
      exact low_run vlo _ _ (low_cases el.2 rlo)
  · have e0 := rmx.int
    subst e0
    rcases bnd_some h2 with ⟨rfl, rfl⟩ | ⟨k', n', rfl, a', b', rfl⟩
    · have := hs rfl; cases this
    · have e1 := rhi.int
      subst e1
      refine ⟨n.toNat, ?_, el.1, by clear el; omega, by clear el; omega, by clear el; omega⟩
      simp only [Instr.sliceBounds, Sem.run_bind]
      rw [run_sliceBound w k n cap _ a (by omega)]
      simp only [Result.andThen_ok]
      rw [run_sliceBound w k' n' n.toNat _ a' (by omega)]
      simp only [Result.andThen_ok]
      exact low_run vlo _ _ (low_cases el.2 rlo)

theorem RepV.sub {b off cap' esz l h : Nat} {xs : List D} {cv : Nat → Nat → Value} (hS : S b) (he : ∀ x ∈ xs, x.cells.length = esz ∧ x.good = true)
    (hc : ∀ (i : Nat) (x : D) (j : Nat) (c : D), xs[i]? = some x → x.cells[j]? = some c → w.cell? ⟨b, off + i * esz + j, none⟩ = some (cv i j))
    (hr : ∀ (i : Nat) (x : D) (j : Nat) (c : D), xs[i]? = some x → x.cells[j]? = some c → RepV α S w (cv i j) c) (hl : l ≤ h) (hh : h ≤ xs.length) (hcap : h - l ≤ cap') :
    RepV α S w (.slice (some ⟨b, off + l * esz, none⟩) (h - l) cap') (.list ((xs.drop l).take (h - l))) := by
  have at_ : ∀ (i : Nat) (x : D), ((xs.drop l).take (h - l))[i]? = some x → xs[l + i]? = some x := by
    intro i x e
    rw [List.getElem?_take] at e
    split at e
    · rwa [List.getElem?_drop] at e
    · cases e
  refine .list b (off + l * esz) (h - l) cap' esz _ (fun i j => cv (l + i) j) (by simp; omega) hcap hS (fun x hx => he x (List.mem_of_mem_drop (List.mem_of_mem_take hx))) (fun i x j c e1 e2 => ?_) (fun i x j c e1 e2 => hr _ x j c (at_ i x e1) e2)
  have := hc (l + i) x j c (at_ i x e1) e2
  rw [← this]
  congr 2
  rw [Nat.add_mul]
  omega

theorem sliceD_sound {t : TypeId} {x d : D} {lo hi mx : Option D} {a : Value} {vlo vhi vmx : Option Value} (hd : sliceD P t x lo hi mx = some d) (hx : RepV α S w a x)
    (rlo : RepO α S w vlo lo) (rhi : RepO α S w vhi hi) (rmx : RepO α S w vmx mx) : ∃ v, (Instr.sliceAt t a vlo vhi vmx).run P w = .ok v w ∧ RepV α S w v d := by
  unfold sliceD at hd
  split at hd
  · rename_i s
    split at hd
    · rename_i hb
      split at hd
      · rename_i h h2
        split at hd
        · rename_i l h3
          cases hd
          cases hx
          have hu := isStrT_spec hb.1
          have hm : mx = none := by cases mx with | none => rfl | some _ => cases hb.2
          subst hm
          have e0 := rmx.none_
          subst e0
          obtain ⟨m', hrun, q1, q2, q3, q4⟩ := bounds_sound (P := P) (sl := false) (len := s.length) (cap := s.length) (Nat.le_refl _) rlo rhi rmx (m := s.length) rfl h2 h3 (fun e => by cases e)
          refine ⟨.string ⟨((s.drop l).take (h - l)).toArray⟩, ?_, .str _⟩
          have hsz : (⟨s.toArray⟩ : ByteArray).size = s.length := by simp [ByteArray.size]
          rw [run_sliceAt_string w t _ _ _ _ hu]
          simp only [Instr.slice, Sem.run_bind, run_underlying hu, Result.andThen_ok, hsz]
          simp only [show (none : Option Value).isSome = false from rfl, Bool.false_eq_true, if_false, Sem.run_pure, Result.andThen_ok, Sem.run_bind, hrun]
          rw [ByteArray.extract_mk]
        · cases hd
      · cases hd
    · cases hd
  · rename_i xs
    split at hd
    · rename_i e ti he
      split at hd
      · rename_i hb
        split at hd
        · rename_i m h1
          split at hd
          · rename_i h h2
            split at hd
            · rename_i l h3
              cases hd
              obtain ⟨u1, u2⟩ := eltOf_spec he
              have hsl : (Instr.sliceAt t a vlo vhi vmx).run P w = (Instr.slice t a vlo vhi vmx).run P w := by
                simp only [Instr.sliceAt, Sem.run_bind, run_underlying u1, Result.andThen_ok]
              rw [hsl]
              rcases hx.list_form with ⟨rfl, rfl⟩ | ⟨b, off, cap, esz, rfl, hcap, hS, hes, cv, hc, hr⟩
              · obtain ⟨m', hrun, q1, q2, q3, q4⟩ := bounds_sound (P := P) (sl := true) (len := 0) (cap := 0) (Nat.le_refl _) rlo rhi rmx h1 h2 h3 hb.2
                have el : l = 0 := by simp at q2; omega
                have eh : h = 0 := by simpa using q2
                have hm' : m' = 0 := by omega
                subst el eh hm'
                refine ⟨.slice none 0 0, ?_, by simpa using RepV.nil⟩
                simp only [Instr.slice, Sem.run_bind, run_underlying u1, Result.andThen_ok, hrun, run_sizeOf' u2, Sem.run_pure]
                simp
              · obtain ⟨m', hrun, q1, q2, q3, q4⟩ := bounds_sound (P := P) (sl := true) (len := xs.length) (cap := cap) hcap rlo rhi rmx h1 h2 h3 hb.2
                have hesz : xs ≠ [] → esz = ti.size := by
                  intro hne
                  cases xs with
                  | nil => exact absurd rfl hne
                  | cons y ys =>
                    rw [← szAll_spec hb.1 y (by simp)]
                    exact ((hes y (by simp)).1).symm
                by_cases hml : m' = l
                · have : h = l := by omega
                  subst this
                  refine ⟨.slice (some ⟨b, off, none⟩) 0 0, ?_, ?_⟩
                  · simp only [Instr.slice, Sem.run_bind, run_underlying u1, Result.andThen_ok, hrun, run_sizeOf' u2, Sem.run_pure]
                    simp [hml]
                  · rw [Nat.sub_self, List.take_zero]
                    exact .list b off 0 0 esz [] cv rfl (Nat.le_refl _) hS (by simp) (by simp) (by simp)
                · refine ⟨.slice (some ⟨b, off + l * esz, none⟩) (h - l) (m' - l), ?_, RepV.sub hS hes hc hr q1 q2 (by omega)⟩
                  simp only [Instr.slice, Sem.run_bind, run_underlying u1, Result.andThen_ok, hrun, run_sizeOf' u2, Sem.run_pure]
                  rw [if_neg hml]
                  simp only [Option.map_some, Addr.add_none]
                  by_cases hne : xs = []
                  · subst hne
                    have : l = 0 := by simp at q2; omega
                    subst this
                    simp
                  · rw [hesz hne]
            · cases hd
          · cases hd
        · cases hd
      · cases hd
    · cases hd
  · cases hd

end
end Go.Ab
