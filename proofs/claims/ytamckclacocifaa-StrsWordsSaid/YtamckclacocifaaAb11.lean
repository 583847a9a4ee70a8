/- Slices made and appended to; bytes of a string; iteration over a string. -/
import Derived.Test.YtamckclacocifaaAb10
namespace Go.Ab

section
variable {P : Program} {B : Base} {α : List Value} {S : Nat → Prop} {h : List Blk} {w : World}

/-- A new own slice over a new row. -/
theorem newSlice_sound {esz cap : Nat} {ty : TypeId} {xs : List D} {cur : Array Value} {fr : Nat × Nat} {w' : World} (m : Mem B α S h w) (hh : w'.heap = w.heap.push (.cells cur ty fr)) (ho : Out w w')
    (hfr : ∀ o, o < cur.size → ¬ (fr.1 ≤ o ∧ o < fr.2)) (hcap : cap * esz ≤ cur.size) (hlen : xs.length ≤ cap) (hsz : ∀ x ∈ xs, x.cells.length = esz) (hg : ∀ x ∈ xs, x.good = true)
    (hc : ∀ (k : Nat) (c : D), (flatD xs)[k]? = some c → ∃ v, cur[k]? = some v ∧ RepV α S w v c) :
    Mem B (α ++ [.slice (some ⟨w.heap.size, 0, none⟩) xs.length cap]) S (h ++ [.slice esz ty xs]) w' ∧ Nx α S w (α ++ [.slice (some ⟨w.heap.size, 0, none⟩) xs.length cap]) S w' ∧
      RepV (α ++ [.slice (some ⟨w.heap.size, 0, none⟩) xs.length cap]) S w' (.slice (some ⟨w.heap.size, 0, none⟩) xs.length cap) (.ref h.length xs.length) := by
  have hold : ∀ b, b < w.heap.size → w'.heap[b]? = w.heap[b]? := fun b hb => by rw [hh, Array.getElem?_push, if_neg (by omega)]
  have hnew : w'.heap[w.heap.size]? = some (.cells cur ty fr) := by rw [hh, Array.getElem?_push, if_pos rfl]
  have nx : Nx α S w (α ++ [.slice (some ⟨w.heap.size, 0, none⟩) xs.length cap]) S w' := ⟨Adv.app _ _, fun _ x => x, fun b hb => hold b (m.rep.lt b hb)⟩
  have al := m.alloc (w' := w') (.slice (some ⟨w.heap.size, 0, none⟩) xs.length cap) (.slice esz ty xs) (by rw [hh]; simp) hold ho.os ho.tape ho.output (fun b hb => by cases hb; exact Nat.le_refl _)
    (.inr ⟨w.heap.size, 0, cap, cur, fr, rfl, hnew, hfr, by omega, hlen, fun x hx => ⟨hsz x hx, hg x hx⟩, fun i x j c e1 e2 => by
      obtain ⟨v, g1, g2⟩ := hc _ c (flat_get xs hsz i x j c e1 e2)
      exact ⟨v, by rw [Nat.zero_add]; exact g1, nx.rep g2⟩⟩)
  refine ⟨al.1, al.2, ?_⟩
  have hα : (α ++ [Value.slice (some ⟨w.heap.size, 0, none⟩) xs.length cap])[h.length]? = some (.slice (some ⟨w.heap.size, 0, none⟩) xs.length cap) := by
    rw [← m.rep.len, List.getElem?_append_right (Nat.le_refl _)]
    simp
  exact .ref h.length xs.length xs.length _ _ hα rfl (Nat.le_refl _) rfl (fun _ => rfl)

/-- An own slice that is nil. -/
theorem newNil_sound {esz : Nat} {ty : TypeId} (m : Mem B α S h w) : Mem B (α ++ [.slice none 0 0]) S (h ++ [.slice esz ty []]) w ∧ Nx α S w (α ++ [.slice none 0 0]) S w ∧
    RepV (α ++ [.slice none 0 0]) S w (.slice none 0 0) (.ref h.length 0) := by
  have al := m.alloc (w' := w) (.slice none 0 0) (.slice esz ty []) (Nat.le_refl _) (fun _ _ => rfl) rfl rfl rfl (fun b hb => by cases hb) (.inl ⟨rfl, rfl⟩)
  refine ⟨al.1, al.2, ?_⟩
  have hα : (α ++ [Value.slice none 0 0])[h.length]? = some (.slice none 0 0) := by
    rw [← m.rep.len, List.getElem?_append_right (Nat.le_refl _)]
    simp
  exact .ref h.length 0 0 _ _ hα rfl (Nat.le_refl _) rfl (fun _ => rfl)

theorem fillD_seq {sz : Nat} {pl : List (Nat × Nat)} (hpl : ∀ i p, pl[i]? = some p → p = (i * sz, sz)) : ∀ (ds : List D) (k : Nat) (pre zs : List D), (∀ i, i < k + ds.length → i < pl.length) → pre.length = k * sz → zs.length = ds.length * sz →
    (∀ d ∈ ds, d.cells.length = sz) → (∀ d ∈ ds, d.good = true) → fillD pl (pre ++ zs) ((List.range' k ds.length).zip ds) = some (pre ++ flatD ds)
  | [], k, pre, zs, _, _, hz, _, _ => by
    have : zs = [] := List.eq_nil_of_length_eq_zero (by simpa using hz)
    subst this
    simp [fillD, flatD]
  | d :: ds, k, pre, zs, hp, h1, h2, h3, h4 => by
    have hd : d.cells.length = sz := h3 d (by simp)
    have hk : k < pl.length := hp k (by simp)
    have hpk : pl[k]? = some (k * sz, sz) := by rw [List.getElem?_eq_getElem hk]; congr 1; exact hpl k _ (List.getElem?_eq_getElem hk)
    simp only [List.length_cons, List.range'_succ, List.zip_cons_cons, fillD, hpk]
    have hlen : zs.length = sz + ds.length * sz := by rw [h2, List.length_cons, Nat.add_mul]; omega
    rw [if_pos ⟨hd, by rw [List.length_append, h1, hlen]; omega, h4 d (by simp)⟩]
    have hput : putAt (pre ++ zs) (k * sz) d.cells = (pre ++ d.cells) ++ zs.drop sz := by
      unfold putAt
      rw [List.take_append_of_le_length (by omega), List.take_of_length_le (by omega), hd]
      rw [List.drop_append, List.drop_of_length_le (by omega), h1]
      simp
    rw [hput]
    have := fillD_seq hpl ds (k + 1) (pre ++ d.cells) (zs.drop sz) (fun i hi => hp i (by simp; omega)) (by rw [List.length_append, h1, hd, Nat.add_mul]; omega) (by simp [hlen]) (fun x hx => h3 x (by simp [hx])) (fun x hx => h4 x (by simp [hx]))
    rw [this]
    simp [flatD]

/-- Parts of a slice literal, given up one after the other. -/
def sealP : List D → List Blk → Option (List D × List Blk)
  | [], h => some ([], h)
  | d :: ds, h => match (match d with
      | .agg cs => (match sealL cs h with
        | some (cs', h') => some (.agg cs', h')
        | none => none)
      | .tup _ => none
      | d => (match sealL [d] h with
        | some ([d'], h') => some (d', h')
        | _ => none) : Option (D × List Blk)) with
    | none => none
    | some (d', h') => match sealP ds h' with
      | some (ds', h'') => some (d' :: ds', h'')
      | none => none

end
end Go.Ab
