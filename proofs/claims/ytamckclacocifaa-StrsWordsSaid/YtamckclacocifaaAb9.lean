/- Stores into own blocks; new variables. -/
import Derived.Test.YtamckclacocifaaAb8
namespace Go.Ab

structure Out (w w' : World) : Prop where
  os : w'.os = w.os
  tape : w'.tape = w.tape
  output : w'.output = w.output

theorem Out.refl (w : World) : Out w w := ⟨rfl, rfl, rfl⟩
theorem Out.trans {a b c : World} (h : Out a b) (k : Out b c) : Out a c := ⟨k.os.trans h.os, k.tape.trans h.tape, k.output.trans h.output⟩

theorem set_same {β : Type} {l : List β} {i : Nat} {a : β} (h : l[i]? = some a) : l.set i a = l := by
  obtain ⟨hi, rfl⟩ := List.getElem?_eq_some_iff.1 h
  simp

theorem setCell_at {w : World} {b o : Nat} {v : Value} {vs : Array Value} {ty : TypeId} {fr : Nat × Nat} (h : w.heap[b]? = some (.cells vs ty fr)) :
    (w.setCell ⟨b, o, none⟩ v).heap[b]? = some (.cells (vs.setIfInBounds o v) ty fr) := by
  simp only [World.setCell, Array.getElem?_modify, if_true, h, Option.map_some]
  rfl

theorem setCell_off {w : World} {b o c : Nat} {v : Value} (h : c ≠ b) : (w.setCell ⟨b, o, none⟩ v).heap[c]? = w.heap[c]? := by
  simp only [World.setCell, Array.getElem?_modify]
  rw [if_neg (by simpa using fun e => h e.symm)]

section
variable {P : Program}

theorem run_storeCells {b off : Nat} {ty : TypeId} {fr : Nat × Nat} : ∀ (us : List Value) (i : Nat) (w : World) (vs : Array Value), w.heap[b]? = some (.cells vs ty fr) → (∀ u ∈ us, u.oneCell' = true) →
    off + i + us.length ≤ vs.size → (∀ o, o < vs.size → ¬ (fr.1 ≤ o ∧ o < fr.2)) →
    ∃ w' vs', (storeCells ⟨b, off, none⟩ us i).run P w = .ok () w' ∧ w'.heap[b]? = some (.cells vs' ty fr) ∧ vs'.size = vs.size ∧
      (∀ k : Nat, vs'[k]? = if off + i ≤ k ∧ k < off + i + us.length then us[k - (off + i)]? else vs[k]?) ∧ (∀ c, c ≠ b → w'.heap[c]? = w.heap[c]?) ∧ w'.heap.size = w.heap.size ∧ Out w w'
  | [], i, w, vs, hb, _, _, _ => ⟨w, vs, rfl, hb, rfl, fun k => by rw [if_neg (by simp <;> omega)], fun _ _ => rfl, rfl, Out.refl w⟩
  | u :: us, i, w, vs, hb, h1, hl, hf => by
    simp only [List.length_cons] at hl
    have hc : w.cell? ⟨b, off + i, none⟩ = some vs[off + i] := by rw [cell_of_heap hb]; exact Array.getElem?_eq_getElem (by omega)
    have hfz : w.frozen? ⟨b, off + i, none⟩ = false := by
      have := hf (off + i) (by omega)
      simp only [World.frozen?, hb]
      simp only [Bool.and_eq_false_iff, decide_eq_false_iff_not]
      rcases Nat.lt_or_ge (off + i) fr.1 with h | h
      · exact .inl (by omega)
      · exact .inr (fun h' => this ⟨h, h'⟩)
    have hst : (store (⟨b, off + i, none⟩ : Addr) u).run P w = .ok () (w.setCell ⟨b, off + i, none⟩ u) := by
      rw [run_store P w _ u .plain (h1 u (by simp))]
      simp only [hc, hfz, Bool.false_eq_true, if_false]
    obtain ⟨w', vs', e1, e2, e3, e4, e5, e6, e7⟩   := run_storeCells (off := off) us (i + 1) (w.setCell ⟨b, off + i, none⟩ u) _ (setCell_at hb) (fun x hx => h1 x (by simp [hx])) (by simp; omega) (fun o ho => hf o (by simpa using ho))
    refine ⟨w', vs', ?_, e2, by rw [e3]; simp, fun k => ?_, fun c hc' => by rw [e5 c hc', setCell_off hc'], by rw [e6]; simp, Out.trans (b := w.setCell ⟨b, off + i, none⟩ u) ⟨rfl, rfl, rfl⟩ e7⟩
    · simp only [storeCells, Sem.run_bind, Addr.add_none, hst, Result.andThen_ok]
      exact e1
    · rw [e4]
      simp only [List.length_cons]
      by_cases hk : k = off + i
      · subst hk
        rw [if_neg (by omega), if_pos (by omega), Nat.sub_self]
        simp [Array.getElem?_setIfInBounds]
        omega
      · by_cases hk2 : off + (i + 1) ≤ k ∧ k < off + (i + 1) + us.length
        · rw [if_pos hk2, if_pos (by omega)]
          rw [show k - (off + i) = (k - (off + (i + 1))) + 1 by omega, List.getElem?_cons_succ]
        · rw [if_neg hk2, if_neg (by omega)]
          rw [Array.getElem?_setIfInBounds_ne (by omega)]

theorem run_newVar {w : World} {t : TypeId} {v : Value} : (newVar t v).run P w = .ok ⟨w.heap.size, 0, none⟩ (w.alloc (.cells v.cells t)) := by
  simp [newVar, newRow]

theorem alloc_old {w : World} {o : Obj} {b : Nat} (h : b < w.heap.size) : (w.alloc o).heap[b]? = w.heap[b]? := by
  show (w.heap.push o)[b]? = _
  rw [Array.getElem?_push, if_neg (by omega)]

theorem alloc_new {w : World} {o : Obj} : (w.alloc o).heap[w.heap.size]? = some o := by
  show (w.heap.push o)[w.heap.size]? = _
  rw [Array.getElem?_push, if_pos rfl]

end

/-- The same data with other cells. -/
def reD (y : D) (cs : List D) : D :=
  match y with
  | .agg _ => .agg cs
  | _ => match cs with
    | [c] => c
    | _ => .agg cs

theorem reD_cells {y : D} {cs : List D} (hl : cs.length = y.cells.length) (hg : y.good = true) (hc : ∀ c ∈ cs, c.leaf = true) : (reD y cs).cells = cs ∧ (reD y cs).good = true := by
  unfold reD
  split
  · refine ⟨rfl, ?_⟩
    simp only [D.good, List.all_eq_true]
    exact hc
  · split
    · rename_i c
      have := hc c (by simp)
      refine ⟨D.cells_leaf this, ?_⟩
      cases c <;> first | rfl | cases this
    · refine ⟨rfl, ?_⟩
      simp only [D.good, List.all_eq_true]
      exact hc

def storeD (P : Program) (t : TypeId) (a x : D) (h : List Blk) : Option (List Blk) :=
  match tiOf P t with
  | none => none
  | some ti => if x.good = true ∧ x.cells.length = ti.size then
      match a with
      | .ptr id off => match h[id]? with
        | some (.box cs) => if off + ti.size ≤ cs.length then some (h.set id (.box (putAt cs off x.cells))) else none
        | _ => none
      | .eptr id n esz k off => match h[id]? with
        | some (.slice esz' ty xs) => if esz' = esz ∧ xs.length = n then (match xs[k]? with
          | some y => if off + ti.size ≤ y.cells.length then some (h.set id (.slice esz ty (xs.set k (reD y (putAt y.cells off x.cells))))) else none
          | none => none) else none
        | _ => none
      | _ => none
    else none

section
variable {P : Program} {B : Base} {α : List Value} {S : Nat → Prop} {h : List Blk} {w : World}

theorem putAt_leaf {cs xs : List D} {off : Nat} (h1 : ∀ c ∈ cs, c.leaf = true) (h2 : ∀ c ∈ xs, c.leaf = true) : ∀ c ∈ putAt cs off xs, c.leaf = true := by
  intro c hc
  unfold putAt at hc
  rcases List.mem_append.1 hc with hc | hc
  · exact h1 c (List.mem_of_mem_take hc)
  · rcases List.mem_append.1 hc with hc | hc
    · exact h2 c hc
    · exact h1 c (List.mem_of_mem_drop hc)

theorem storeD_sound {t : TypeId} {a x : D} {h' : List Blk} {va vx : Value} (hd : storeD P t a x h = some h') (m : Mem B α S h w) (ha : RepV α S w va a) (hx : RepV α S w vx x) :
    ∃ w', (Instr.storeAt t va vx).run P w = .ok () w' ∧ Mem B α S h' w' ∧ Nx α S w α S w' := by
  unfold storeD at hd
  split at hd
  · cases hd
  · rename_i ti hti
    split at hd
    · rename_i hgx
      obtain ⟨c1, c2⟩ := hx.cellsOf hgx.1
      have hones : ∀ u ∈ vx.cells.toList, u.oneCell' = true := by
        intro u hu
        obtain ⟨i, hi, rfl⟩ := List.mem_iff_getElem.1 hu
        have hi' : i < x.cells.length := by rw [← c1]; simpa using hi
        have := c2 i vx.cells.toList[i] x.cells[i] (by simp at hi ⊢) (List.getElem?_eq_getElem hi')
        exact this.oneCell (D.leaf_of_good hgx.1 (List.getElem_mem hi'))
      have hlen : vx.cells.toList.length = ti.size := by simp [c1, hgx.2]
      split at hd
      · rename_i id off
        split at hd
        · rename_i cs hblk
          split at hd
          · rename_i hfit
            cases hd
            cases ha with
            | ptr _ _ b hα =>
              obtain ⟨b', ty, vs, e, h1, h2, h3, h4⟩ := m.rep.rep id _ _ hblk hα
              cases e
              obtain ⟨w', vs', e1, e2, e3, e4, e5, e6, e7⟩ := run_storeCells (P := P) (off := off) vx.cells.toList 0 w vs h1 hones (by rw [hlen, h2]; omega) (fun o _ => by simp)
              have hne : ∀ c, S c → c ≠ b := fun c hc e => m.rep.sep b ⟨id, _, _, hblk, rfl, hα, rfl⟩ (e ▸ hc)
              have hmono : ∀ {v : Value} {d : D}, RepV α S w v d → RepV α S w' v d := fun r => r.mono (Adv.refl _) (fun _ x => x) (fun c hc => e5 c (hne c hc))
              have up := m.upd (w' := w') (a' := .pointer (some ⟨b, 0, none⟩)) (k' := .box (putAt cs off x.cells)) hblk rfl hα (.inl rfl) (by omega) (fun c _ hc => e5 c (fun e => hc (by rw [e]; rfl))) e7.os e7.tape e7.output (fun c hc => .inl hc)
                (by
                  refine ⟨b, ty, vs', rfl, e2, ?_, putAt_leaf h3 (fun c hc => D.leaf_of_good hgx.1 hc), fun i u c f1 f2 => ?_⟩
                  · rw [e3, h2, putAt_length _ _ _ (by rw [hgx.2]; exact hfit)]
                  · rw [set_same hα]
                    rw [e4] at f1
                    rw [putAt_get _ _ _ (by rw [hgx.2]; exact hfit)] at f2
                    simp only [Nat.add_zero, hlen] at f1
                    rw [hgx.2] at f2
                    by_cases hk : off ≤ i ∧ i < off + ti.size
                    · rw [if_pos hk] at f1 f2
                      exact hmono (c2 (i - off) u c (by simpa using f1) f2)
                    · rw [if_neg hk] at f1 f2
                      exact hmono (h4 i u c f1 f2))
              rw [set_same hα] at up
              refine ⟨w', ?_, up.1, up.2⟩
              simp only [Instr.storeAt, Instr.sureAddr, Sem.run_bind, Sem.run_pure, Result.andThen_ok, storeVar, run_sizeOf' hti]
              rw [if_neg (by rw [c1, hgx.2]; simp)]
              exact e1
          · cases hd
        · cases hd
      · rename_i id n esz k off
        split at hd
        · rename_i esz' ty xs hblk
          split at hd
          · rename_i hsm
            split at hd
            · rename_i y hy
              split at hd
              · rename_i hfit
                cases hd
                obtain ⟨hs1, hs2⟩ := hsm
                subst hs1
                cases ha with
                | eptr _ _ kk _ _ _ _ c hα hk hn hp hv =>
                  have hr := m.rep.rep id _ c hblk hα
                  have hkk : n = kk := by
                    rcases hr with ⟨rfl, rfl⟩ | ⟨b, o, cap, vs, fr, rfl, _⟩
                    · simp at hy
                    · cases hk; exact hs2.symm
                  obtain ⟨b, o, cap, g1, g2⟩ := hv hkk
                  subst g1 g2
                  rcases hr with ⟨e, _⟩ | ⟨b', o', cap', vs, fr, e, h1, h2, h3, h4, h5, h6⟩
                  · cases e
                  · cases e
                    have hkl : k < xs.length := (List.getElem?_eq_some_iff.1 hy).1
                    have hye := h5 y (List.mem_of_getElem? hy)
                    have hslot : o + k * esz' + esz' ≤ vs.size := by
                      have : (k + 1) * esz' ≤ cap * esz' := Nat.mul_le_mul_right _ (by omega)
                      rw [Nat.add_mul] at this
                      omega
                    obtain ⟨w', vs', e1, e2, e3, e4, e5, e6, e7⟩ := run_storeCells (P := P) (off := o + k * esz' + off) vx.cells.toList 0 w vs h1 hones (by rw [hlen]; omega) h2
                    have hne : ∀ c, S c → c ≠ b := fun c hc e => m.rep.sep b ⟨id, _, _, hblk, rfl, hα, rfl⟩ (e ▸ hc)
                    have hmono : ∀ {v : Value} {d : D}, RepV α S w v d → RepV α S w' v d := fun r => r.mono (Adv.refl _) (fun _ x => x) (fun c hc => e5 c (hne c hc))
                    have hpl : (putAt y.cells off x.cells).length = y.cells.length := putAt_length _ _ _ (by rw [hgx.2]; exact hfit)
                    have hre := reD_cells (y := y) hpl hye.2 (putAt_leaf (fun c hc => D.leaf_of_good hye.2 hc) (fun c hc => D.leaf_of_good hgx.1 hc))
                    have up := m.upd (w' := w') (a' := .slice (some ⟨b, o, none⟩) xs.length cap) (k' := .slice esz' ty (xs.set k (reD y (putAt y.cells off x.cells)))) hblk rfl hα (.inl rfl) (by omega) (fun c _ hc => e5 c (fun e => hc (by rw [e]; rfl))) e7.os e7.tape e7.output (fun c hc => .inl hc)
                      (by
                        refine .inr ⟨b, o, cap, vs', fr, by simp, e2, by rw [e3]; exact h2, by rw [e3]; exact h3, by simp; omega, fun z hz => ?_, fun i z j c f1 f2 => ?_⟩
                        · rcases List.mem_or_eq_of_mem_set hz with hz | rfl
                          · exact h5 z hz
                          · exact ⟨by rw [hre.1, hpl]; exact hye.1, hre.2⟩
                        · rw [set_same hα]
                          simp only [Nat.add_zero, hlen] at e4
                          by_cases hik : k = i
                          · subst hik
                            rw [List.getElem?_set_self hkl] at f1
                            cases f1
                            rw [hre.1, putAt_get _ _ _ (by rw [hgx.2]; exact hfit), hgx.2] at f2
                            by_cases hj : off ≤ j ∧ j < off + ti.size
                            · rw [if_pos hj] at f2
                              have hjl : j - off < vx.cells.size := by rw [c1]; exact (List.getElem?_eq_some_iff.1 f2).1
                              refine ⟨vx.cells[j - off], ?_, hmono (c2 (j - off) _ c (Array.getElem?_eq_getElem hjl) f2)⟩
                              rw [e4, if_pos (by omega)]
                              rw [show o + k * esz' + j - (o + k * esz' + off) = j - off by omega]
                              simp [hjl]
                            · rw [if_neg hj] at f2
                              obtain ⟨v, g1, g2⟩ := h6 k y j c hy f2
                              refine ⟨v, ?_, hmono g2⟩
                              rw [e4, if_neg (by omega)]
                              exact g1
                          · rw [List.getElem?_set_ne hik] at f1
                            obtain ⟨v, g1, g2⟩ := h6 i z j c f1 f2
                            refine ⟨v, ?_, hmono g2⟩
                            have hjl : j < esz' := by
                              rw [← (h5 z (List.mem_of_getElem? f1)).1]
                              exact (List.getElem?_eq_some_iff.1 f2).1
                            have hoff : off + ti.size ≤ esz' := by rw [← hye.1]; exact hfit
                            rw [e4, if_neg]
                            · exact g1
                            · rintro ⟨q1, q2⟩
                              rcases Nat.lt_or_gt_of_ne hik with hlt | hlt
                              · have : (k + 1) * esz' ≤ i * esz' := Nat.mul_le_mul_right _ hlt
                                rw [Nat.add_mul] at this
                                omega
                              · have : (i + 1) * esz' ≤ k * esz' := Nat.mul_le_mul_right _ hlt
                                rw [Nat.add_mul] at this
                                omega)
                    rw [set_same hα] at up
                    refine ⟨w', ?_, up.1, up.2⟩
                    simp only [Instr.storeAt, Instr.sureAddr, Sem.run_bind, Sem.run_pure, Result.andThen_ok, storeVar, run_sizeOf' hti]
                    rw [if_neg (by rw [c1, hgx.2]; simp)]
                    exact e1
              · cases hd
            · cases hd
          · cases hd
        · cases hd
      · cases hd
    · cases hd

/-- A new variable. -/
theorem newBox_sound {t : TypeId} {x : D} {v : Value} (m : Mem B α S h w) (hg : x.good = true) (hx : RepV α S w v x) :
    Mem B (α ++ [.pointer (some ⟨w.heap.size, 0, none⟩)]) S (h ++ [.box x.cells]) (w.alloc (.cells v.cells t)) ∧
      Nx α S w (α ++ [.pointer (some ⟨w.heap.size, 0, none⟩)]) S (w.alloc (.cells v.cells t)) ∧
      RepV (α ++ [.pointer (some ⟨w.heap.size, 0, none⟩)]) S (w.alloc (.cells v.cells t)) (.pointer (some ⟨w.heap.size, 0, none⟩)) (.ptr h.length 0) := by
  obtain ⟨c1, c2⟩ := hx.cellsOf hg
  have nx : Nx α S w (α ++ [.pointer (some ⟨w.heap.size, 0, none⟩)]) S (w.alloc (.cells v.cells t)) := ⟨Adv.app _ _, fun _ x => x, fun b hb => alloc_old (m.rep.lt b hb)⟩
  have al := m.alloc (w' := w.alloc (.cells v.cells t)) (.pointer (some ⟨w.heap.size, 0, none⟩)) (.box x.cells) (by simp) (fun b hb => alloc_old hb) rfl rfl rfl (fun b hb => by cases hb; exact Nat.le_refl _)
    ⟨w.heap.size, t, v.cells, rfl, alloc_new, c1, fun c hc => D.leaf_of_good hg hc, fun i u c e1 e2 => nx.rep (c2 i u c e1 e2)⟩
  refine ⟨al.1, al.2, .ptr _ _ _ ?_⟩
  rw [← m.rep.len, List.getElem?_append_right (Nat.le_refl _)]
  simp

end
end Go.Ab
