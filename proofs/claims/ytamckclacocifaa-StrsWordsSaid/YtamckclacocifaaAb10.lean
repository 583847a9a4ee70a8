/- Own slices: their cells read, sealed, made, appended to. -/
import Derived.Test.YtamckclacocifaaAb9
namespace Go.Ab

def flatD (xs : List D) : List D := xs.flatMap D.cells

theorem flat_length {sz : Nat} : ∀ xs : List D, (∀ x ∈ xs, x.cells.length = sz) → (flatD xs).length = xs.length * sz
  | [], _ => by simp [flatD]
  | x :: xs, h => by
    have ih := flat_length xs fun y hy => h y (by simp [hy])
    simp only [flatD, List.flatMap_cons, List.length_append, List.length_cons] at ih ⊢
    rw [ih, h x (by simp), Nat.add_mul]
    omega

theorem flat_get {sz : Nat} : ∀ (xs : List D), (∀ x ∈ xs, x.cells.length = sz) → ∀ (i : Nat) (x : D) (j : Nat) (c : D), xs[i]? = some x → x.cells[j]? = some c → (flatD xs)[i * sz + j]? = some c
  | [], _, i, x, j, c, h1, _ => by simp at h1
  | y :: ys, h, i, x, j, c, h1, h2 => by
    have hy : y.cells.length = sz := h y (by simp)
    simp only [flatD, List.flatMap_cons]
    cases i with
    | zero =>
      simp at h1
      subst h1
      rw [Nat.zero_mul, Nat.zero_add, List.getElem?_append_left (List.getElem?_eq_some_iff.1 h2).1]
      exact h2
    | succ i =>
      rw [List.getElem?_append_right (by rw [hy, Nat.add_mul]; omega)]
      have := flat_get ys (fun z hz => h z (by simp [hz])) i x j c (by simpa using h1) h2
      rw [← this, hy]
      congr 1
      rw [Nat.add_mul]
      omega

theorem flat_inv {sz : Nat} : ∀ (xs : List D), (∀ x ∈ xs, x.cells.length = sz) → ∀ (k : Nat) (c : D), (flatD xs)[k]? = some c → ∃ i x j, k = i * sz + j ∧ j < sz ∧ xs[i]? = some x ∧ x.cells[j]? = some c
  | [], _, k, c, h => by simp [flatD] at h
  | y :: ys, h, k, c, hk => by
    have hy : y.cells.length = sz := h y (by simp)
    simp only [flatD, List.flatMap_cons] at hk
    by_cases hlt : k < sz
    · rw [List.getElem?_append_left (by omega)] at hk
      exact ⟨0, y, k, by omega, hlt, rfl, hk⟩
    · rw [List.getElem?_append_right (by omega), hy] at hk
      obtain ⟨i, x, j, e1, e2, e3, e4⟩ := flat_inv ys (fun z hz => h z (by simp [hz])) (k - sz) c hk
      exact ⟨i + 1, x, j, by rw [Nat.add_mul]; omega, e2, by simpa using e3, e4⟩

theorem flat_leaf {xs : List D} (h : ∀ x ∈ xs, x.good = true) : ∀ c ∈ flatD xs, c.leaf = true := by
  intro c hc
  obtain ⟨x, hx, hc⟩ := List.mem_flatMap.1 hc
  exact D.leaf_of_good (h x hx) hc

/-- The elements that a slice, or a string handed to append, holds. -/
def srcD (x : D) (h : List Blk) : Option (List D) :=
  match x with
  | .list xs => some xs
  | .nils => some []
  | .str s => some (s.map encB)
  | .ref id n => match h[id]? with
    | some (.slice _ _ xs) => if xs.length = n then some xs else none
    | _ => none
  | _ => none

def goodAll (xs : List D) : Bool := xs.all D.good

theorem goodAll_spec {xs : List D} (h : goodAll xs = true) : ∀ x ∈ xs, x.good = true := List.all_eq_true.1 h

section
variable {P : Program} {B : Base} {α : List Value} {S : Nat → Prop} {h : List Blk} {w : World}

/-- Cells that stand one behind the other can be read. -/
theorem run_cells {b off sz : Nat} {xs : List D} (hsz : ∀ x ∈ xs, x.cells.length = sz) (hg : ∀ x ∈ xs, x.good = true)
    (hc : ∀ (k : Nat) (c : D), (flatD xs)[k]? = some c → ∃ v, w.cell? ⟨b, off + k, none⟩ = some v ∧ RepV α S w v c) :
    ∃ vs : Array Value, (loadCells ⟨b, off, none⟩ (xs.length * sz)).run P w = .ok vs w ∧ RepC α S w vs.toList (flatD xs) := by
  have hlen := flat_length xs hsz
  let vs : List Value := (List.range (flatD xs).length).map fun k => (w.cell? ⟨b, off + k, none⟩).getD undef
  have hget : ∀ (k : Nat) (v : Value), vs[k]? = some v → w.cell? ⟨b, off + k, none⟩ = some v := by
    intro k v e
    have hk : k < (flatD xs).length := by have := (List.getElem?_eq_some_iff.1 e).1; simpa [vs] using this
    obtain ⟨u, hu, _⟩ := hc k _ (List.getElem?_eq_getElem hk)
    simp [vs, hk, hu] at e
    subst e
    exact hu
  refine ⟨vs.toArray, ?_, ?_⟩
  · have := run_loadCells_list (P := P) w ⟨b, off, none⟩ vs (fun j v e => by rw [Addr.add_none]; exact hget j v e)
    simpa [vs, hlen] using this
  · refine ⟨by simp [vs], flat_leaf hg, fun k v c e1 e2 => ?_⟩
    obtain ⟨u, hu, hr⟩ := hc k c e2
    have := hget k v (by simpa using e1)
    rw [hu] at this
    cases this
    exact hr

theorem RepV.esz_of {xs : List D} {esz sz : Nat} (he : ∀ x ∈ xs, x.cells.length = esz ∧ x.good = true) (hs : szAll sz xs = true) (hne : xs ≠ []) : esz = sz := by
  cases xs with
  | nil => exact absurd rfl hne
  | cons y ys =>
    rw [← (he y (by simp)).1]
    exact szAll_spec hs y (by simp)

/-- What append reads of its second operand. -/
theorem src_sound {x : D} {xs : List D} {v : Value} {sz : Nat} (hd : srcD x h = some xs) (hx : RepV α S w v x) (rh : RepH α S h w) (hs : szAll sz xs = true) (hg : goodAll xs = true) :
    (Builtin.lenOf v).run P w = .ok xs.length w ∧ ∃ vs : Array Value, (Builtin.firstCells sz xs.length v).run P w = .ok vs w ∧ RepC α S w vs.toList (flatD xs) := by
  unfold srcD at hd
  have hsz := szAll_spec hs
  have hgd := goodAll_spec hg
  split at hd
  · rename_i ys
    cases hd
    rcases hx.list_form with ⟨rfl, rfl⟩ | ⟨b, off, cap, esz, rfl, hcap, hS, hes, cv, hc, hr⟩
    · exact ⟨rfl, #[], rfl, rfl, by simp [flatD], by simp⟩
    · refine ⟨rfl, ?_⟩
      exact run_cells hsz hgd fun k c hk => by
        obtain ⟨i, x, j, rfl, hj, e3, e4⟩ := flat_inv xs hsz k c hk
        have hez := RepV.esz_of hes hs (by rintro rfl; simp at e3)
        subst hez
        rw [← Nat.add_assoc]
        exact ⟨_, hc i x j c e3 e4, hr i x j c e3 e4⟩
  · cases hd
    cases hx
    exact ⟨rfl, #[], rfl, rfl, by simp [flatD], by simp⟩
  · rename_i s
    cases hd
    cases hx
    have hlen : (⟨s.toArray⟩ : ByteArray).size = s.length := by simp [ByteArray.size]
    refine ⟨by simp [Builtin.lenOf, hlen], (s.map fun b => Value.int .u8 b.toNat).toArray, ?_, ?_⟩
    · simp only [Builtin.firstCells, Sem.run_pure, List.length_map]
      congr 1
      rw [ByteArray.extract_mk]
      simp
    · have hf : flatD (s.map encB) = s.map encB := by
        unfold flatD
        rw [List.flatMap_map]
        have : (fun a => (encB a).cells) = fun a => [encB a] := by funext a; rfl
        rw [this]
        exact List.map_eq_flatMap.symm
      rw [hf]
      refine ⟨by simp, fun c hc => by obtain ⟨b, _, rfl⟩ := List.mem_map.1 hc; rfl, fun i u c e1 e2 => ?_⟩
      have hi : i < s.length := by have := (List.getElem?_eq_some_iff.1 e2).1; simpa using this
      simp [hi] at e1 e2
      subst e1 e2
      exact .int _ _
  · rename_i id n
    split at hd
    · rename_i esz ty ys hblk
      split at hd
      · rename_i hn
        cases hd
        obtain ⟨_, hform⟩ := hx.ref_now rh hblk hn
        rcases hform with ⟨rfl, rfl⟩ | ⟨b, off, cap, vs, fr, rfl, h1, h2, h3, h4, h5, h6⟩
        · exact ⟨rfl, #[], rfl, rfl, by simp [flatD], by simp⟩
        · refine ⟨rfl, ?_⟩
          exact run_cells hsz hgd fun k c hk => by
            obtain ⟨i, x, j, rfl, hj, e3, e4⟩ := flat_inv xs hsz k c hk
            have hez := RepV.esz_of h5 hs (by rintro rfl; simp at e3)
            subst hez
            obtain ⟨u, g1, g2⟩ := h6 i x j c e3 e4
            refine ⟨u, ?_, g2⟩
            rw [cell_of_heap h1, ← Nat.add_assoc]
            exact g1
      · cases hd
    · cases hd
  · cases hd

/-- An own slice given up for good: it reads as a list from now on. -/
theorem seal_sound {id n esz : Nat} {ty : TypeId} {xs : List D} {v : Value} (m : Mem B α S h w) (hv : RepV α S w v (.ref id n)) (hb : h[id]? = some (.slice esz ty xs)) (hn : xs.length = n) :
    ∃ S', Mem B α S' (h.set id .dead) w ∧ Nx α S w α S' w ∧ RepV α S' w v (.list xs) := by
  obtain ⟨hα, hform⟩ := hv.ref_now m.rep hb hn
  obtain ⟨m', nx⟩ := m.seal_ hb rfl hα
  refine ⟨_, m', nx, ?_⟩
  rcases hform with ⟨rfl, rfl⟩ | ⟨b, off, cap, vs, fr, rfl, h1, h2, h3, h4, h5, h6⟩
  · exact .nil
  · refine .list b off _ cap esz xs (fun i j => (vs[off + i * esz + j]?).getD undef) rfl h4 (.inr rfl) h5 (fun i x j c e1 e2 => ?_) (fun i x j c e1 e2 => ?_)
    · obtain ⟨u, g1, g2⟩ := h6 i x j c e1 e2
      rw [cell_of_heap h1, g1]
      rfl
    · obtain ⟨u, g1, g2⟩ := h6 i x j c e1 e2
      rw [g1]
      exact nx.rep g2

/-- Cells given up: own slices among them are sealed, nil slices read as lists. -/
def sealL : List D → List Blk → Option (List D × List Blk)
  | [], h => some ([], h)
  | d :: ds, h => match d with
    | .ref id n => match h[id]? with
      | some (.slice _ _ xs) => if xs.length = n then (match sealL ds (h.set id .dead) with
        | some (ds', h') => some (.list xs :: ds', h')
        | none => none) else none
      | _ => none
    | .nils => match sealL ds h with
      | some (ds', h') => some (.list [] :: ds', h')
      | none => none
    | d => match sealL ds h with
      | some (ds', h') => some (d :: ds', h')
      | none => none

theorem sealL_sound : ∀ (ds : List D) (h : List Blk) (α : List Value) (S : Nat → Prop) (ds' : List D) (h' : List Blk) (vs : List Value), sealL ds h = some (ds', h') → Mem B α S h w → RepL α S w vs ds → (∀ c ∈ ds, c.leaf = true) →
    ∃ S', Mem B α S' h' w ∧ Nx α S w α S' w ∧ RepL α S' w vs ds' ∧ (∀ c ∈ ds', c.leaf = true)
  | [], h, α, S, ds', h', vs, hd, m, hr, _ => by
    cases hd
    exact ⟨S, m, Nx.refl _ _ _, hr, by simp⟩
  | d :: ds, h, α, S, ds', h', vs, hd, m, hr, hl => by
    cases vs with
    | nil => cases hr.1
    | cons v vs =>
      have hv := hr.head
      have hvs := hr.tail
      have hl' : ∀ c ∈ ds, c.leaf = true := fun c hc => hl c (by simp [hc])
      unfold sealL at hd
      split at hd
      · rename_i id n
        split at hd
        · rename_i esz ty xs hb
          split at hd
          · rename_i hn
            split at hd
            · rename_i ds1 h1 hrec
              cases hd
              obtain ⟨S1, m1, nx1, r1⟩ := seal_sound m hv hb hn
              obtain ⟨S2, m2, nx2, r2, l2⟩ := sealL_sound ds _ α S1 _ _ vs hrec m1 ⟨hvs.1, fun i v d e1 e2 => nx1.rep (hvs.2 i v d e1 e2)⟩ hl'
              exact ⟨S2, m2, nx1.trans nx2, .cons (nx2.rep r1) r2, fun c hc => by
                rcases List.mem_cons.1 hc with rfl | hc
                · rfl
                · exact l2 c hc⟩
            · cases hd
          · cases hd
        · cases hd
      · split at hd
        · rename_i ds1 h1 hrec
          cases hd
          obtain ⟨S2, m2, nx2, r2, l2⟩ := sealL_sound ds _ α S _ _ vs hrec m hvs hl'
          have : v = .slice none 0 0 := by cases hv; rfl
          subst this
          exact ⟨S2, m2, nx2, .cons .nil r2, fun c hc => by
            rcases List.mem_cons.1 hc with rfl | hc
            · rfl
            · exact l2 c hc⟩
        · cases hd
      · split at hd
        · rename_i ds1 h1 hrec
          cases hd
          obtain ⟨S2, m2, nx2, r2, l2⟩ := sealL_sound ds _ α S _ _ vs hrec m hvs hl'
          exact ⟨S2, m2, nx2, .cons (nx2.rep hv) r2, fun c hc => by
            rcases List.mem_cons.1 hc with rfl | hc
            · exact hl _ (by simp)
            · exact l2 c hc⟩
        · cases hd

end
end Go.Ab
