/- make, bytes of a string, iteration over a string, a slice over an own array: on the engine's memory. All operations that write, in one. -/
import Derived.Test.YtamckclacocifaaAb14
namespace Go.Ab

def makeSliceD (P : Program) (t : TypeId) (len cap : D) (h : List Blk) : Option (D × List Blk) :=
  match len, cap with
  | .int _ n, .int _ c => match rowOf P t with
    | none => none
    | some (e, i, z) => if 0 ≤ n ∧ n ≤ c ∧ c ≤ 4611686018427387904 ∧ c * i.bytes ≤ 140737488355328 then
        some (.ref h.length n.toNat, h ++ [.slice i.size e (List.replicate n.toNat z)]) else none
  | _, _ => none

def bytesOfD (P : Program) (src dst : TypeId) (s : List UInt8) (h : List Blk) : Option (D × List Blk) :=
  match eltOf P dst with
  | none => none
  | some (e, _) => if isStrT P src = true ∧ isBytesT P dst = true then some (.ref h.length s.length, h ++ [.slice 1 e (s.map encB)]) else none

def nextD (x : D) (h : List Blk) : Option (D × List Blk) :=
  match x with
  | .hnd id => match h[id]? with
    | some (.iter s pos) => if pos < s.length then
        some (.tup [.bool true, .int .i64 pos, .int .i32 (Utf8.decode ⟨s.toArray⟩ pos).1], h.set id (.iter s (pos + (Utf8.decode ⟨s.toArray⟩ pos).2)))
      else some (.tup [.bool false], h)
    | _ => none
  | _ => none

/-- A slice over an own array of one-cell elements: the array is given up. -/
def arrSliceD (P : Program) (t : TypeId) (id off : Nat) (lo hi : Option D) (h : List Blk) : Option (D × List Blk) :=
  match arrOf P t, h[id]? with
  | some (n, ti), some (.box cs) => if ti.size = 1 ∧ off + n ≤ cs.length then
      (match bnd hi n n with
      | some k => match bnd lo 0 k with
        | some l => some (.list ((((cs.drop off).take n).drop l).take (k - l)), h.set id .dead)
        | none => none
      | none => none) else none
  | _, _ => none

def evW (P : Program) (op : Op) (g : Operand → Option D) (h : List Blk) : Option (Option D × List Blk) :=
  match op with
  | .store t a x => match g a, g x with
    | some da, some dx => match storeD P t da dx h with
      | some h' => some (none, h')
      | none => none
    | _, _ => none
  | .alloc t => match zeroD P t with
    | some z => if z.good = true then some (some (.ptr h.length 0), h ++ [.box z.cells]) else none
    | none => none
  | .box _ x => match g x with
    | some d => if d.good = true then some (some (.ptr h.length 0), h ++ [.box d.cells]) else none
    | none => none
  | .buildSlice t len ps => match mapP g ps.toList with
    | some l => match buildSliceD P t len l h with
      | some (d, h') => some (some d, h')
      | none => none
    | none => none
  | .makeSlice t l c => match g l, g c with
    | some dl, some dc => match makeSliceD P t dl dc h with
      | some (d, h') => some (some d, h')
      | none => none
    | _, _ => none
  | .convert src dst x => match g x with
    | some (.str s) => match bytesOfD P src dst s h with
      | some (d, h') => some (some d, h')
      | none => none
    | _ => none
  | .slice t x lo hi none => match g x, optG g lo, optG g hi with
    | some (.ptr id off), some l, some k => match arrSliceD P t id off l k h with
      | some (d, h') => some (some d, h')
      | none => none
    | _, _, _ => none
  | .range t x => match g x with
    | some (.str s) => if isStrT P t = true then some (some (.hnd h.length), h ++ [.iter s 0]) else none
    | _ => none
  | .next x true => match g x with
    | some d => match nextD d h with
      | some (d', h') => some (some d', h')
      | none => none
    | none => none
  | .call { callee := .builtin .append, args, argTypes } => match mapG g args.toList, argTypes.toList with
    | some [s, x], [t, xt] => match appendD P t xt s x h with
      | some (d, h') => some (some d, h')
      | none => none
    | _, _ => none
  | _ => none

section
variable {P : Program} {B : Base} {α : List Value} {S : Nat → Prop} {h : List Blk} {w : World}

theorem makeSliceD_sound {t : TypeId} {len cap d : D} {h' : List Blk} {vl vc : Value} (hd : makeSliceD P t len cap h = some (d, h')) (m : Mem B α S h w) (hl : RepV α S w vl len) (hc : RepV α S w vc cap) :
    ∃ v w' α', (Instr.makeSlice t vl vc).run P w = .ok v w' ∧ Mem B α' S h' w' ∧ Nx α S w α' S w' ∧ RepV α' S w' v d := by
  unfold makeSliceD at hd
  split at hd
  · rename_i k n k' c
    split at hd
    · cases hd
    · rename_i e i z hrow
      split at hd
      · rename_i hb
        cases hd
        cases hl; cases hc
        obtain ⟨b1, b2, b3, b4⟩ := hb
        obtain ⟨u1, u2, zg, zl, inf, zv, v1, v2, v3, v4, v5⟩ := rowOf_spec hrow
        have hzc := RepV.zero_cells (α := α) (S := S) (w := w) v5 zg
        have wn : IntKind.i64.wrap n = n := by rw [IntKind.wrap_i64]; omega
        have wc : IntKind.i64.wrap c = c := by rw [IntKind.wrap_i64]; omega
        have hcb : (inf.bytes : Int) * c ≤ 140737488355328 := by rw [v4, Int.mul_comm]; exact b4
        let zero : Array Value := if c.toNat * i.size = 0 then #[] else zv.cells
        let cur : Array Value := (Array.range (c.toNat * i.size)).map (fun k => zero[k % zero.size]!)
        have hrun : (Instr.makeSlice t (.int k n) (.int k' c)).run P w = .ok (.slice (some ⟨w.heap.size, 0, none⟩) n.toNat c.toNat) (w.alloc (.cells cur e)) := by
          have hti : ∀ w : World, (typeInfo e).run P w = .ok inf w := fun w => by simp [typeInfo, v1]
          have hzv : ∀ w : World, (zeroValue e).run P w = .ok zv w := fun w => by simp [zeroValue, typeInfo, v1, v2]
          have h1 : (decide (c < 0) || decide ((inf.bytes : Int) * c > 2 ^ 48)) = false := by
            simp only [Bool.or_eq_false_iff, decide_eq_false_iff_not]
            exact ⟨by omega, by omega⟩
          simp only [Instr.makeSlice, Sem.run_bind, run_underlying u1, Result.andThen_ok, asInt, asIntOf, Sem.run_pure, hti, wn, wc]
          rw [if_neg (by simp only [h1]; simp; omega)]
          simp only [Sem.run_bind, run_askRoom, Result.andThen_ok, run_sizeOf' u2]
          by_cases hz0 : c.toNat * i.size = 0
          · have hzz : zero = #[] := by simp [zero, hz0]
            rw [if_pos hz0]
            simp only [Sem.run_bind, Sem.run_pure, Result.andThen_ok, newRow, run_newObj, World.alloc_eq, cur, hzz]
          · have hzz : zero = zv.cells := by simp [zero, hz0]
            rw [if_neg hz0]
            simp only [Sem.run_bind, Sem.run_pure, Result.andThen_ok, hzv, newRow, run_newObj, World.alloc_eq, cur, hzz]
        have hrl : ∀ x ∈ List.replicate n.toNat z, x.cells.length = i.size := fun x hx => by rw [(List.mem_replicate.1 hx).2, zl]
        have hfl := flat_length (sz := i.size) (List.replicate n.toNat z) hrl
        simp only [List.length_replicate] at hfl
        have hns := newSlice_sound (esz := i.size) (cap := c.toNat) (ty := e) (xs := List.replicate n.toNat z) (cur := cur) (fr := (0, 0)) (w' := w.alloc (.cells cur e)) m rfl ⟨rfl, rfl, rfl⟩ (fun o _ => by simp) (by simp [cur]) (by simp; omega) hrl
          (fun x hx => by rw [(List.mem_replicate.1 hx).2]; exact zg) (fun q c' hq => by
            have hqn : q < n.toNat * i.size := by rw [← hfl]; exact (List.getElem?_eq_some_iff.1 hq).1
            have hle : n.toNat * i.size ≤ c.toNat * i.size := Nat.mul_le_mul_right _ (by omega)
            have hz0 : zero = zv.cells := by simp only [zero]; rw [if_neg (by omega)]
            have hzp : 0 < zero.size := by
              rw [hz0, hzc.1, zl]
              rcases Nat.eq_zero_or_pos i.size with hzz | hzz
              · rw [hzz] at hqn; omega
              · exact hzz
            obtain ⟨v', f1, f2⟩ := zero_row (α := α) (S := S) (w := w) v5 zg n.toNat hq
            refine ⟨v', ?_, f2⟩
            simp only [cur]
            rw [zeros_get (by omega) hzp, hz0]
            exact f1)
        simp only [List.length_replicate] at hns
        exact ⟨_, _, _, hrun, hns.1, hns.2.1, hns.2.2⟩
      · cases hd
  · cases hd

theorem flat_enc (s : List UInt8) : flatD (s.map encB) = s.map encB := by
  unfold flatD
  rw [List.flatMap_map]
  have : (fun a => (encB a).cells) = fun a => [encB a] := by funext a; rfl
  rw [this]
  exact List.map_eq_flatMap.symm

theorem bytesOfD_sound {src dst : TypeId} {s : List UInt8} {d : D} {h' : List Blk} (hd : bytesOfD P src dst s h = some (d, h')) (m : Mem B α S h w) :
    ∃ v w' α', (convert src dst (.string ⟨s.toArray⟩)).run P w = .ok v w' ∧ Mem B α' S h' w' ∧ Nx α S w α' S w' ∧ RepV α' S w' v d := by
  unfold bytesOfD at hd
  split at hd
  · cases hd
  · rename_i e ti he
    split at hd
    · rename_i hb
      cases hd
      obtain ⟨u1, u2⟩ := eltOf_spec he
      obtain ⟨e', f1, f2⟩ := isBytesT_spec hb.2
      rw [u1] at f1
      cases f1
      have hrun := run_bytes_of_string (P := P) w src dst e ⟨s.toArray⟩ (isStrT_spec hb.1) u1 f2
      have hsz : (⟨s.toArray⟩ : ByteArray).size = s.length := by simp [ByteArray.size]
      rw [hsz] at hrun
      obtain ⟨md, nxd⟩ := m.drew
      have hge := grownCap_ge w s.length 0 e
      have hrow : (bytesRow ⟨s.toArray⟩ (grownCap w s.length 0 e)).size = grownCap w s.length 0 e := by simp [bytesRow, hsz]; omega
      rw [hrow] at hrun
      have hns := newSlice_sound (esz := 1) (cap := grownCap w s.length 0 e) (ty := e) (xs := s.map encB) (cur := bytesRow ⟨s.toArray⟩ (grownCap w s.length 0 e)) (fr := (grownCap w s.length 0 e, grownCap w s.length 0 e + 1)) md
        (w' := w.drew.alloc (.cells (bytesRow ⟨s.toArray⟩ (grownCap w s.length 0 e)) e (grownCap w s.length 0 e, grownCap w s.length 0 e + 1))) rfl ⟨rfl, rfl, rfl⟩ (fun o ho => by rw [hrow] at ho; simp; omega) (by rw [hrow]; omega) (by simpa using hge)
        (fun x hx => by obtain ⟨b, _, rfl⟩ := List.mem_map.1 hx; rfl) (fun x hx => by obtain ⟨b, _, rfl⟩ := List.mem_map.1 hx; rfl) (fun k c hk => by
          rw [flat_enc] at hk
          have hks : k < s.length := by have := (List.getElem?_eq_some_iff.1 hk).1; simpa using this
          have hr := bytesRow_at ⟨s.toArray⟩ (grownCap w s.length 0 e) k (by simpa using hks)
          refine ⟨_, hr, ?_⟩
          simp [hks] at hk
          subst hk
          exact .int _ _)
      simp only [List.length_map] at hns
      exact ⟨_, _, _, hrun, hns.1, nxd.trans hns.2.1, hns.2.2⟩
    · cases hd

theorem rangeD_sound {t : TypeId} {s : List UInt8} (ht : isStrT P t = true) (m : Mem B α S h w) :
    ∃ v w' α', (Instr.range t (.string ⟨s.toArray⟩)).run P w = .ok v w' ∧ Mem B α' S (h ++ [.iter s 0]) w' ∧ Nx α S w α' S w' ∧ RepV α' S w' v (.hnd h.length) := by
  have al := m.alloc (w' := w.alloc (.stringIter ⟨s.toArray⟩ 0)) (.pointer (some ⟨w.heap.size, 0, none⟩)) (.iter s 0) (by simp) (fun b hb => alloc_old hb) rfl rfl rfl (fun b hb => by cases hb; exact Nat.le_refl _)
    ⟨w.heap.size, rfl, alloc_new⟩
  refine ⟨_, _, _, run_range_string w t _ (isStrT_spec ht), al.1, al.2, .hnd _ _ ?_ rfl rfl⟩
  rw [← m.rep.len, List.getElem?_append_right (Nat.le_refl _)]
  simp

theorem nextD_sound {x d : D} {h' : List Blk} {v : Value} {ty : TypeId} (hd : nextD x h = some (d, h')) (m : Mem B α S h w) (hx : RepV α S w v x) :
    ∃ u w', (Instr.next v true ty).run P w = .ok u w' ∧ Mem B α S h' w' ∧ Nx α S w α S w' ∧ RepV α S w' u d := by
  unfold nextD at hd
  split at hd
  · rename_i id
    split at hd
    · rename_i s pos hb
      cases hx with
      | hnd _ _ hα hs hl =>
        obtain ⟨r, rfl, h1⟩ := m.rep.rep id _ v hb hα
        have hsz : (⟨s.toArray⟩ : ByteArray).size = s.length := by simp [ByteArray.size]
        split at hd
        · rename_i hp
          cases hd
          have hr : r < w.heap.size := (Array.getElem?_eq_some_iff.1 h1).1
          have hne : ∀ c, S c → c ≠ r := fun c hc e => m.rep.sep r ⟨id, _, _, hb, rfl, hα, rfl⟩ (e ▸ hc)
          have hat : ∀ c, c ≠ r → (w.heap.setIfInBounds r (.stringIter ⟨s.toArray⟩ (pos + (Utf8.decode ⟨s.toArray⟩ pos).2)))[c]? = w.heap[c]? := fun c hc => Array.getElem?_setIfInBounds_ne (fun e => hc e.symm)
          have up := m.upd (w' := { w with heap := w.heap.setIfInBounds r (.stringIter ⟨s.toArray⟩ (pos + (Utf8.decode ⟨s.toArray⟩ pos).2)) }) (a' := .pointer (some ⟨r, 0, none⟩)) (k' := .iter s (pos + (Utf8.decode ⟨s.toArray⟩ pos).2)) hb rfl hα (.inl rfl) (by simp)
            (fun c _ hc => hat c (fun e => hc (by rw [e]; rfl))) rfl rfl rfl (fun c hc => .inl hc) ⟨r, rfl, by simp [hr]⟩
          rw [set_same hα] at up
          refine ⟨.tuple #[.bool true, .int .i64 pos, .int .i32 (Utf8.decode ⟨s.toArray⟩ pos).1], _, ?_, up.1, up.2, ?_⟩
          · simp only [Instr.next, getObj, setObj, Sem.run_bind, Sem.run, h1, hsz, hp, if_true, Result.andThen]
            simp [goInt]
          · refine .tup _ _ rfl fun i u c e1 e2 => ?_
            match i with
            | 0 => simp at e1 e2; subst e1 e2; exact .bool _
            | 1 => simp at e1 e2; subst e1 e2; exact .int _ _
            | 2 => simp at e1 e2; subst e1 e2; exact .int _ _
            | i + 3 => simp at e1
        · rename_i hp
          cases hd
          refine ⟨.tuple #[.bool false], w, ?_, m, Nx.refl _ _ _, ?_⟩
          · simp [Instr.next, getObj, Sem.run, h1, hsz, hp]
          · refine .tup _ _ rfl fun i u c e1 e2 => ?_
            match i with
            | 0 => simp at e1 e2; subst e1 e2; exact .bool _
            | i + 1 => simp at e1
    · cases hd
  · cases hd

theorem arrSliceD_sound {t : TypeId} {id off : Nat} {lo hi : Option D} {d : D} {h' : List Blk} {v : Value} {vlo vhi : Option Value} (hd : arrSliceD P t id off lo hi h = some (d, h')) (m : Mem B α S h w) (hx : RepV α S w v (.ptr id off))
    (rlo : RepO α S w vlo lo) (rhi : RepO α S w vhi hi) : ∃ u S', (Instr.sliceAt t v vlo vhi none).run P w = .ok u w ∧ Mem B α S' h' w ∧ Nx α S w α S' w ∧ RepV α S' w u d := by
  unfold arrSliceD at hd
  split at hd
  · rename_i n ti cs hat hb
    split at hd
    · rename_i hz
      split at hd
      · rename_i k h2
        split at hd
        · rename_i l h3
          cases hd
          obtain ⟨e, e1, e2⟩ := arrOf_spec hat
          cases hx with
          | ptr _ _ b hα =>
            obtain ⟨m', nx⟩ := m.seal_ hb rfl hα
            obtain ⟨ty, vs, g1, g2⟩ := (m.rep.rep id _ _ hb hα).box_cells
            obtain ⟨m0, hrun, q1, q2, q3, q4⟩ := bounds_sound (P := P) (sl := false) (len := n) (cap := n) (Nat.le_refl _) rlo rhi (mx := none) (vmx := none) trivial (m := n) rfl h2 h3 (fun e => by cases e)
            have hmn : m0 = n := by
              have := hrun
              simp only [Instr.sliceBounds, Sem.run_bind, Sem.run_pure, Result.andThen_ok] at this
              rcases bnd_some h2 with ⟨rfl, rfl⟩ | ⟨k1, n1, rfl, a1, b1, rfl⟩
              · have e0 := rhi.none_
                subst e0
                simp only [Sem.run_bind, Sem.run_pure, Result.andThen_ok] at this
                rcases bnd_some h3 with ⟨rfl, rfl⟩ | ⟨k2, n2, rfl, a2, b2, rfl⟩
                · have e0 := rlo.none_
                  subst e0
                  simp at this
                  exact this.symm
                · have e0 := rlo.int
                  subst e0
                  simp [run_sliceBound w k2 n2 k _ a2 b2] at this
                  exact this.symm
              · have e0 := rhi.int
                subst e0
                simp only [Sem.run_bind, run_sliceBound w k1 n1 n _ a1 b1, Result.andThen_ok] at this
                rcases bnd_some h3 with ⟨rfl, rfl⟩ | ⟨k2, n2, rfl, a2, b2, rfl⟩
                · have e0 := rlo.none_
                  subst e0
                  simp at this
                  exact this.symm
                · have e0 := rlo.int
                  subst e0
                  simp [run_sliceBound w k2 n2 n1.toNat _ a2 b2] at this
                  exact this.symm
            subst hmn
            have hleaf : ∀ x ∈ (cs.drop off).take m0, x.leaf = true := fun x hx => g2.2.1 x (List.mem_of_mem_drop (List.mem_of_mem_take hx))
            have hgx : ∀ (i : Nat) (x : D), ((cs.drop off).take m0)[i]? = some x → cs[off + i]? = some x := by
              intro i x e
              rw [List.getElem?_take] at e
              split at e
              · rwa [List.getElem?_drop] at e
              · cases e
            have hlen : ((cs.drop off).take m0).length = m0 := by simp; omega
            have hcell : ∀ (i : Nat) (x : D), ((cs.drop off).take m0)[i]? = some x → ∃ u, vs[off + i]? = some u ∧ RepV α S w u x := by
              intro i x e
              obtain ⟨u, f1, f2, _⟩ := g2.at (hgx i x e)
              exact ⟨u, by simpa using f1, f2⟩
            have hsub := RepV.sub (α := α) (S := fun c => S c ∨ vblock (.pointer (some ⟨b, 0, none⟩)) = some c) (w := w) (b := b) (off := off) (esz := 1) (xs := (cs.drop off).take m0) (cv := fun i _ => (vs[off + i]?).getD undef) (l := l) (h := k) (cap' := m0 - l) (.inr rfl)
              (fun x hx => by
                have := hleaf x hx
                exact ⟨by rw [D.cells_leaf this]; rfl, by cases x <;> first | rfl | cases this⟩)
              (fun i x j c f1 f2 => by
                have hl := hleaf x (List.mem_of_getElem? f1)
                rw [D.cells_leaf hl] at f2
                have hj : j = 0 := by have := (List.getElem?_eq_some_iff.1 f2).1; simpa using this
                subst hj
                obtain ⟨u, g3, g4⟩ := hcell i x f1
                rw [cell_of_heap g1, Nat.mul_one, Nat.add_zero, g3]
                rfl)
              (fun i x j c f1 f2 => by
                have hl := hleaf x (List.mem_of_getElem? f1)
                rw [D.cells_leaf hl] at f2
                have hj : j = 0 := by have := (List.getElem?_eq_some_iff.1 f2).1; simpa using this
                subst hj
                simp at f2
                subst f2
                obtain ⟨u, g3, g4⟩ := hcell i x f1
                rw [g3]
                exact nx.rep g4) q1 (by omega) (by omega)
            by_cases hml : m0 = l
            · have : k = l := by omega
              subst this
              refine ⟨.slice (some ⟨b, off, none⟩) 0 0, _, ?_, m', nx, ?_⟩
              · simp only [Instr.sliceAt, Sem.run_bind, run_underlying e1, Result.andThen_ok, Instr.sureAddr, Sem.run_pure, hrun, run_sizeOf' e2]
                simp [hml]
              · rw [Nat.sub_self, List.take_zero]
                exact .list b off 0 0 1 [] (fun _ _ => undef) rfl (Nat.le_refl _) (.inr rfl) (by simp) (by simp) (by simp)
            · refine ⟨.slice (some ⟨b, off + l * 1, none⟩) (k - l) (m0 - l), _, ?_, m', nx, hsub⟩
              simp only [Instr.sliceAt, Sem.run_bind, run_underlying e1, Result.andThen_ok, Instr.sureAddr, Sem.run_pure, hrun, run_sizeOf' e2]
              rw [if_neg hml, Addr.add_none, hz.1]
        · cases hd
      · cases hd
    · cases hd
  · cases hd

end
end Go.Ab
