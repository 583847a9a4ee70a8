/- append on the engine's memory. -/
import Derived.Test.YtamckclacocifaaAb13
namespace Go.Ab

theorem cap_split {a c : Nat} (h : a ≤ c) (s : Nat) : c * s = a * s + (c - a) * s := by
  rw [← Nat.add_mul]; congr 1; omega

theorem flat_append (xs ys : List D) : flatD (xs ++ ys) = flatD xs ++ flatD ys := by simp [flatD]

section
variable {P : Program} {B : Base} {α : List Value} {S : Nat → Prop} {h : List Blk} {w : World}

theorem RepC.append {vs us : List Value} {cs ds : List D} (h1 : RepC α S w vs cs) (h2 : RepC α S w us ds) : RepC α S w (vs ++ us) (cs ++ ds) :=
  ⟨by simp [h1.1, h2.1], fun c hc => by
    rcases List.mem_append.1 hc with hc | hc
    · exact h1.2.1 c hc
    · exact h2.2.1 c hc, fun i v c e1 e2 => by
    by_cases hi : i < vs.length
    · rw [List.getElem?_append_left hi] at e1
      rw [List.getElem?_append_left (by rw [← h1.1]; exact hi)] at e2
      exact h1.2.2 i v c e1 e2
    · rw [List.getElem?_append_right (by omega)] at e1
      rw [List.getElem?_append_right (by rw [← h1.1]; omega)] at e2
      rw [← h1.1] at e2
      exact h2.2.2 _ v c e1 e2⟩

theorem Mem.drew (m : Mem B α S h w) : Mem B α S h w.drew ∧ Nx α S w α S w.drew := m.heap_same rfl rfl rfl rfl

theorem own_cells {xs : List D} {esz b off cap : Nat} {vs : Array Value} (h5 : ∀ x ∈ xs, x.cells.length = esz ∧ x.good = true)
    (h6 : ∀ (i : Nat) (x : D) (j : Nat) (c : D), xs[i]? = some x → x.cells[j]? = some c → ∃ v, vs[off + i * esz + j]? = some v ∧ RepV α S w v c) {ty : TypeId} {fr : Nat × Nat} (h1 : w.heap[b]? = some (.cells vs ty fr)) :
    ∃ os : Array Value, (Builtin.firstCells esz xs.length (.slice (some ⟨b, off, none⟩) xs.length cap)).run P w = .ok os w ∧ RepC α S w os.toList (flatD xs) := by
  have hsz : ∀ x ∈ xs, x.cells.length = esz := fun x hx => (h5 x hx).1
  exact run_cells hsz (fun x hx => (h5 x hx).2) fun k c hk => by
    obtain ⟨i, x, j, rfl, hj, e3, e4⟩ := flat_inv xs hsz k c hk
    obtain ⟨u, g1, g2⟩ := h6 i x j c e3 e4
    refine ⟨u, ?_, g2⟩
    rw [cell_of_heap h1, ← Nat.add_assoc]
    exact g1

theorem appendD_sound {t xt ty : TypeId} {s x d : D} {h' : List Blk} {vs vx : Value} (hd : appendD P t xt s x h = some (d, h')) (m : Mem B α S h w) (hs : RepV α S w vs s) (hx : RepV α S w vx x) :
    ∃ v w' α', (Builtin.append_ #[t, xt] ty #[vs, vx]).run P w = .ok v w' ∧ Mem B α' S h' w' ∧ Nx α S w α' S w' ∧ RepV α' S w' v d := by
  unfold appendD at hd
  split at hd
  · cases hd
  · rename_i e i z hrow
    split at hd
    · rename_i hxt
      split at hd
      · cases hd
      · rename_i ys hsrc
        split at hd
        · rename_i hys
          obtain ⟨u1, u2, zg, zl, inf, zv, v1, v2, v3, v4, v5⟩ := rowOf_spec hrow
          have hszy := szAll_spec hys.1
          have hgy := goodAll_spec hys.2
          have hzs : zv.cells.size = i.size := by rw [(RepV.zero_cells (α := α) (S := S) (w := w) v5 zg).1, zl]
          obtain ⟨hlen, nvs, hnew, hnr⟩ := src_sound (P := P) hsrc hx m.rep hys.1 hys.2
          obtain ⟨md, nxd⟩ := m.drew
          obtain ⟨_, nvs', hnew', hnr'⟩ := src_sound (P := P) hsrc (nxd.rep hx) md.rep hys.1 hys.2
          have hfy := flat_length ys hszy
          have hge := fun (need old : Nat) => grownCap_ge w need old e
          split at hd
          · -- the nil slice
            split at hd
            · rename_i hb
              cases hd
              cases hs
              by_cases hy : ys = []
              · subst hy
                obtain ⟨m1, nx1, r1⟩ := newNil_sound (esz := i.size) (ty := e) m
                refine ⟨_, w, _, run_append_fits (ty := ty) (w' := w) u1 u2 hxt hlen hnew (by simp) rfl, m1, nx1, ?_⟩
                simpa using r1
              · have hpos : 0 < ys.length := List.length_pos_iff.2 hy
                have hrun := run_append_grows (ty := ty) u1 u2 hxt v1 v2 v4 (base := none) (n := 0) (cap := 0) (os := #[]) hlen rfl hnew' (by omega) (by omega) (by rw [Nat.zero_add]; exact hb.1)
                have hg0 := hge (0 + ys.length) 0
                simp only [Nat.zero_add] at hrun hg0
                obtain ⟨m1, nx1, r1⟩ := newSlice_sound (esz := i.size) (cap := grownCap w ys.length 0 e) (ty := e) (xs := ys) (cur := #[] ++ nvs' ++ Builtin.zeroCells zv.cells (grownCap w ys.length 0 e - ys.length)) (fr := (0, 0))
                  (w' := w.drew.alloc (.cells (#[] ++ nvs' ++ Builtin.zeroCells zv.cells (grownCap w ys.length 0 e - ys.length)) e)) md rfl ⟨rfl, rfl, rfl⟩ (fun o _ => by simp)
                  (by
                    have : nvs'.size = ys.length * i.size := by have := hnr'.1; simp at this; omega
                    have hsp := cap_split hg0 i.size
                    simp only [Array.size_append, size_zeroCells, hzs, this, List.size_toArray, List.length_nil]
                    omega)
                  hg0 hszy hgy (fun k c hk => by
                    obtain ⟨v, f1, f2, _⟩ := hnr'.at hk
                    refine ⟨v, ?_, f2⟩
                    have hks : k < nvs'.size := by have := (List.getElem?_eq_some_iff.1 f1).1; simpa using this
                    rw [Array.getElem?_append_left (by simp; omega)]
                    simpa using f1)
                exact ⟨_, _, _, hrun, m1, nxd.trans nx1, r1⟩
            · cases hd
          · -- an own slice
            rename_i id n
            split at hd
            · rename_i esz ty' xs hblk
              split at hd
              · rename_i hb
                cases hd
                obtain ⟨b1, b2, b3, b4, b5⟩ := hb
                subst b1 b2
                obtain ⟨hα, hform⟩ := hs.ref_now m.rep hblk b3
                have il : id < α.length := (List.getElem?_eq_some_iff.1 hα).1
                have hxslen : xs.length = n := b3
                rcases hform with ⟨rfl, rfl⟩ | ⟨b, off, cap, cur, fr, rfl, h1, h2, h3, h4, h5, h6⟩
                · -- it is nil
                  simp only [List.length_nil] at hxslen
                  subst hxslen
                  by_cases hy : ys = []
                  · subst hy
                    refine ⟨.slice none 0 0, w, α, ?_, ?_, Nx.refl _ _ _, ?_⟩
                    · simpa using run_append_fits (ty := ty) (w' := w) u1 u2 hxt hlen hnew (base := none) (n := 0) (cap := 0) (by simp) rfl
                    · rw [List.append_nil, set_same hblk]; exact m
                    · simpa using hs
                  · have hpos : 0 < ys.length := List.length_pos_iff.2 hy
                    have hrun := run_append_grows (ty := ty) u1 u2 hxt v1 v2 v4 (base := none) (n := 0) (cap := 0) (os := #[]) hlen rfl hnew' (by omega) (by omega) (by omega)
                    have hg0 := hge (0 + ys.length) 0
                    simp only [Nat.zero_add] at hrun hg0
                    have hnsz : nvs'.size = ys.length * i.size := by have := hnr'.1; simp at this; omega
                    have nx0 : Nx α S w.drew (α.set id (.slice (some ⟨w.heap.size, 0, none⟩) ys.length (grownCap w ys.length 0 ty'))) S (w.drew.alloc (.cells (#[] ++ nvs' ++ Builtin.zeroCells zv.cells (grownCap w ys.length 0 ty' - ys.length)) ty')) :=
                      ⟨Adv.set hα (.inr ⟨0, ys.length, rfl, rfl, hpos⟩), fun _ x => x, fun c hc => alloc_old (md.rep.lt c hc)⟩
                    have up := md.upd (w' := w.drew.alloc (.cells (#[] ++ nvs' ++ Builtin.zeroCells zv.cells (grownCap w ys.length 0 ty' - ys.length)) ty')) (a' := .slice (some ⟨w.heap.size, 0, none⟩) ys.length (grownCap w ys.length 0 ty')) (k' := .slice i.size ty' ([] ++ ys)) hblk rfl hα
                      (.inr ⟨0, ys.length, rfl, rfl, hpos⟩) (by simp) (fun c hc _ => alloc_old hc) rfl rfl rfl (fun c hc => by cases hc; exact .inr (Nat.le_refl _))
                      (.inr ⟨w.heap.size, 0, grownCap w ys.length 0 ty', _, (0, 0), rfl, alloc_new, fun o _ => by simp, by
                        have hsp := cap_split hg0 i.size
                        simp only [Array.size_append, size_zeroCells, hzs, hnsz, List.size_toArray, List.length_nil]
                        omega, hg0, fun x hx => ⟨hszy x hx, hgy x hx⟩, fun i' x' j' c' e1 e2 => by
                        have hk := flat_get ys hszy i' x' j' c' e1 e2
                        obtain ⟨v, f1, f2, _⟩ := hnr'.at hk
                        refine ⟨v, ?_, nx0.rep f2⟩
                        have hks : i' * i.size + j' < nvs'.size := by have := (List.getElem?_eq_some_iff.1 f1).1; simpa using this
                        rw [Nat.zero_add, Array.getElem?_append_left (by simp; omega)]
                        simpa using f1⟩)
                    refine ⟨_, _, _, hrun, up.1, nxd.trans up.2, ?_⟩
                    rw [Nat.zero_add]
                    exact .ref id ys.length ys.length _ _ (List.getElem?_set_self il) rfl (Nat.le_refl _) rfl (fun _ => rfl)
                · -- it has a row
                  have hnsz : nvs.size = ys.length * i.size := by have := hnr.1; simp at this; omega
                  by_cases hfit : xs.length + ys.length ≤ cap
                  · -- there is room
                    have hones : ∀ u ∈ nvs.toList, u.oneCell' = true := by
                      intro u hu
                      obtain ⟨k, hk, rfl⟩ := List.mem_iff_getElem.1 hu
                      have hk' : k < (flatD ys).length := by rw [← hnr.1]; exact hk
                      exact (hnr.2.2 k _ _ (List.getElem?_eq_getElem hk) (List.getElem?_eq_getElem hk')).oneCell (hnr.2.1 _ (List.getElem_mem hk'))
                    have hroom : off + xs.length * i.size + 0 + nvs.toList.length ≤ cur.size := by
                      have : (xs.length + ys.length) * i.size ≤ cap * i.size := Nat.mul_le_mul_right _ hfit
                      rw [Nat.add_mul] at this
                      simp only [Array.length_toList, hnsz]
                      omega
                    obtain ⟨w', cur', e1, e2, e3, e4, e5, e6, e7⟩ := run_storeCells (P := P) (off := off + xs.length * i.size) nvs.toList 0 w cur h1 hones hroom h2
                    have hne : ∀ c, S c → c ≠ b := fun c hc e => m.rep.sep b ⟨id, _, _, hblk, rfl, hα, rfl⟩ (e ▸ hc)
                    have hrun := run_append_fits (ty := ty) (w' := w') u1 u2 hxt hlen hnew (base := some ⟨b, off, none⟩) (n := xs.length) (cap := cap) hfit (by simp only [Addr.add_none]; exact e1)
                    have hadv : (Value.slice (some ⟨b, off, none⟩) (xs.length + ys.length) cap) = .slice (some ⟨b, off, none⟩) xs.length cap ∨ ∃ k k', slen (.slice (some ⟨b, off, none⟩) xs.length cap) = some k ∧ slen (.slice (some ⟨b, off, none⟩) (xs.length + ys.length) cap) = some k' ∧ k < k' := by
                      by_cases hy : ys.length = 0
                      · left; rw [hy]; rfl
                      · right; exact ⟨_, _, rfl, rfl, by omega⟩
                    have nx0 : Nx α S w (α.set id (.slice (some ⟨b, off, none⟩) (xs.length + ys.length) cap)) S w' := ⟨Adv.set hα hadv, fun _ x => x, fun c hc => e5 c (hne c hc)⟩
                    have up := m.upd (w' := w') (a' := .slice (some ⟨b, off, none⟩) (xs.length + ys.length) cap) (k' := .slice i.size ty' (xs ++ ys)) hblk rfl hα hadv (by omega) (fun c _ hc => e5 c (fun e => hc (by rw [e]; rfl))) e7.os e7.tape e7.output
                      (fun c hc => .inl (by cases hc; rfl))
                      (.inr ⟨b, off, cap, cur', fr, by simp, e2, by rw [e3]; exact h2, by rw [e3]; exact h3, by simpa using hfit, fun x hx => by
                        rcases List.mem_append.1 hx with hx | hx
                        · exact h5 x hx
                        · exact ⟨hszy x hx, hgy x hx⟩, fun i' x' j' c' f1 f2 => by
                        simp only [Nat.add_zero, Array.length_toList, hnsz] at e4
                        by_cases hi : i' < xs.length
                        · rw [List.getElem?_append_left hi] at f1
                          obtain ⟨v, g1, g2⟩ := h6 i' x' j' c' f1 f2
                          refine ⟨v, ?_, nx0.rep g2⟩
                          have hj : j' < i.size := by rw [← (h5 x' (List.mem_of_getElem? f1)).1]; exact (List.getElem?_eq_some_iff.1 f2).1
                          have : (i' + 1) * i.size ≤ xs.length * i.size := Nat.mul_le_mul_right _ hi
                          rw [Nat.add_mul] at this
                          rw [e4, if_neg (by omega)]
                          exact g1
                        · rw [List.getElem?_append_right (by omega)] at f1
                          have hk := flat_get ys hszy _ x' j' c' f1 f2
                          obtain ⟨v, g1, g2, _⟩ := hnr.at hk
                          refine ⟨v, ?_, nx0.rep g2⟩
                          have hks := (List.getElem?_eq_some_iff.1 g1).1
                          simp only [Array.length_toList, hnsz] at hks
                          have hdist : i' * i.size = xs.length * i.size + (i' - xs.length) * i.size := by rw [← Nat.add_mul]; congr 1; omega
                          rw [e4, if_pos (by omega)]
                          rw [← g1]
                          congr 1
                          omega⟩)
                    refine ⟨_, _, _, hrun, up.1, up.2, ?_⟩
                    rw [← b3]
                    exact .ref id _ _ _ _ (List.getElem?_set_self il) rfl (Nat.le_refl _) rfl (fun _ => rfl)
                  · -- it grows
                    have hnsz' : nvs'.size = ys.length * i.size := by have := hnr'.1; simp at this; omega
                    obtain ⟨os, ho1, ho2⟩ := own_cells (P := P) (w := w.drew) (α := α) (S := S) (cap := cap) h5 (fun i' x' j' c' f1 f2 => let ⟨v, g1, g2⟩ := h6 i' x' j' c' f1 f2; ⟨v, g1, nxd.rep g2⟩) h1
                    have hosz : os.size = xs.length * i.size := by
                      have := ho2.1
                      simp only [Array.length_toList] at this
                      rw [this, flat_length xs (fun x hx => (h5 x hx).1)]
                    have hpos : 0 < ys.length := by omega
                    have hrun := run_append_grows (ty := ty) u1 u2 hxt v1 v2 v4 (base := some ⟨b, off, none⟩) (n := xs.length) (cap := cap) hlen ho1 hnew' hfit (by omega) (by rw [b3]; exact b4)
                    have hg0 := hge (xs.length + ys.length) cap
                    have hall := ho2.append hnr'
                    rw [← flat_append] at hall
                    have hadv : (Value.slice (some ⟨w.heap.size, 0, none⟩) (xs.length + ys.length) (grownCap w (xs.length + ys.length) cap ty')) = .slice (some ⟨b, off, none⟩) xs.length cap ∨ ∃ k k', slen (.slice (some ⟨b, off, none⟩) xs.length cap) = some k ∧ slen (.slice (some ⟨w.heap.size, 0, none⟩) (xs.length + ys.length) (grownCap w (xs.length + ys.length) cap ty')) = some k' ∧ k < k' :=
                      .inr ⟨_, _, rfl, rfl, by omega⟩
                    have nx0 : Nx α S w.drew (α.set id (.slice (some ⟨w.heap.size, 0, none⟩) (xs.length + ys.length) (grownCap w (xs.length + ys.length) cap ty'))) S
                        (w.drew.alloc (.cells (os ++ nvs' ++ Builtin.zeroCells zv.cells (grownCap w (xs.length + ys.length) cap ty' - (xs.length + ys.length))) ty')) :=
                      ⟨Adv.set hα hadv, fun _ x => x, fun c hc => alloc_old (md.rep.lt c hc)⟩
                    have up := md.upd (w' := w.drew.alloc (.cells (os ++ nvs' ++ Builtin.zeroCells zv.cells (grownCap w (xs.length + ys.length) cap ty' - (xs.length + ys.length))) ty'))
                      (a' := .slice (some ⟨w.heap.size, 0, none⟩) (xs.length + ys.length) (grownCap w (xs.length + ys.length) cap ty')) (k' := .slice i.size ty' (xs ++ ys)) hblk rfl hα hadv (by simp) (fun c hc _ => alloc_old hc) rfl rfl rfl
                      (fun c hc => by cases hc; exact .inr (Nat.le_refl _))
                      (.inr ⟨w.heap.size, 0, grownCap w (xs.length + ys.length) cap ty', _, (0, 0), by simp, alloc_new, fun o _ => by simp, by
                        have hsp := cap_split hg0 i.size
                        rw [Nat.add_mul] at hsp
                        simp only [Array.size_append, size_zeroCells, hzs, hnsz', hosz]
                        omega, by simpa using hg0, fun x hx => by
                        rcases List.mem_append.1 hx with hx | hx
                        · exact h5 x hx
                        · exact ⟨hszy x hx, hgy x hx⟩, fun i' x' j' c' f1 f2 => by
                        have hk := flat_get (xs ++ ys) (sz := i.size) (fun x hx => by
                          rcases List.mem_append.1 hx with hx | hx
                          · exact (h5 x hx).1
                          · exact hszy x hx) i' x' j' c' f1 f2
                        obtain ⟨v, g1, g2, _⟩ := hall.at hk
                        refine ⟨v, ?_, nx0.rep g2⟩
                        have hks := (List.getElem?_eq_some_iff.1 g1).1
                        rw [Nat.zero_add, Array.getElem?_append_left (by simp at hks ⊢; omega)]
                        rw [← Array.getElem?_toList, Array.toList_append]
                        exact g1⟩)
                    refine ⟨_, _, _, hrun, up.1, nxd.trans up.2, ?_⟩
                    rw [← b3]
                    exact .ref id _ _ _ _ (List.getElem?_set_self il) rfl (Nat.le_refl _) rfl (fun _ => rfl)
              · cases hd
            · cases hd
          · cases hd
        · cases hd
    · cases hd

end
end Go.Ab
