/- Rows of zero values; slice literals; make; append. -/
import Derived.Test.YtamckclacocifaaAb11
namespace Go.Ab

def sealG (d : D) (h : List Blk) : Option (D × List Blk) :=
  match d with
  | .agg cs => match sealL cs h with
    | some (cs', h') => some (.agg cs', h')
    | none => none
  | .tup _ => none
  | d => match sealL [d] h with
    | some ([d'], h') => some (d', h')
    | _ => none

def sealGs : List D → List Blk → Option (List D × List Blk)
  | [], h => some ([], h)
  | d :: ds, h => match sealG d h with
    | none => none
    | some (d', h') => match sealGs ds h' with
      | none => none
      | some (ds', h'') => some (d' :: ds', h'')

/-- A slice type: its element's type, layout and zero value. -/
def rowOf (P : Program) (t : TypeId) : Option (TypeId × TI × D) :=
  match eltOf P t with
  | none => none
  | some (e, i) => match zeroD P e with
    | none => none
    | some z => if z.good = true ∧ z.cells.length = i.size then some (e, i, z) else none

section
variable {P : Program} {B : Base} {α : List Value} {S : Nat → Prop} {h : List Blk} {w : World}

theorem sealG_sound {d d' : D} {h' : List Blk} {v : Value} (hd : sealG d h = some (d', h')) (m : Mem B α S h w) (hv : RepV α S w v d) (hg : d.good = true) :
    ∃ S', Mem B α S' h' w ∧ Nx α S w α S' w ∧ RepV α S' w v d' ∧ d'.good = true := by
  have leafcase : ∀ {d : D}, d.leaf = true → (match sealL [d] h with
    | some ([d'], h') => some (d', h')
    | _ => none) = some (d', h') → RepV α S w v d → ∃ S', Mem B α S' h' w ∧ Nx α S w α S' w ∧ RepV α S' w v d' ∧ d'.good = true := by
    intro d hl e hv
    split at e
    · rename_i d1 h1 hs
      cases e
      obtain ⟨S', m', nx, r, l⟩ := sealL_sound [d] h α S [d'] h' [v] hs m (.cons hv .nil) (by simpa using hl)
      have hlf := l d' (by simp)
      exact ⟨S', m', nx, r.head, by cases d' <;> first | rfl | cases hlf⟩
    · cases e
  unfold sealG at hd
  split at hd
  · rename_i cs
    split at hd
    · rename_i cs' h1 hs
      cases hd
      cases v with
      | agg vs =>
        have hr := RepC.of_agg hv
        obtain ⟨S', m', nx, r, l⟩ := sealL_sound cs h α S cs' h' vs.toList hs m ⟨hr.1, hr.2.2⟩ hr.2.1
        refine ⟨S', m', nx, ?_, by simpa [D.good, List.all_eq_true] using l⟩
        have : RepC α S' w vs.toList cs' := ⟨r.1, l, r.2⟩
        simpa using this.agg
      | _ => cases hv
    · cases hd
  · cases hd
  · rename_i hna hnt
    have hl : d.leaf = true := by
      cases d <;> first
        | rfl
        | (cases hg; done)
        | exact absurd rfl (hna _)
        | exact absurd rfl (hnt _)
    exact leafcase hl hd hv

theorem sealGs_sound : ∀ (ds : List D) (h : List Blk) (α : List Value) (S : Nat → Prop) (ds' : List D) (h' : List Blk) (vs : List Value), sealGs ds h = some (ds', h') → Mem B α S h w → RepL α S w vs ds → (∀ d ∈ ds, d.good = true) →
    ∃ S', Mem B α S' h' w ∧ Nx α S w α S' w ∧ RepL α S' w vs ds' ∧ ∀ d ∈ ds', d.good = true
  | [], h, α, S, ds', h', vs, hd, m, hr, _ => by
    cases hd
    exact ⟨S, m, Nx.refl _ _ _, hr, by simp⟩
  | d :: ds, h, α, S, ds', h', vs, hd, m, hr, hg => by
    cases vs with
    | nil => cases hr.1
    | cons v vs =>
      unfold sealGs at hd
      split at hd
      · cases hd
      · rename_i d1 h1 hs
        split at hd
        · cases hd
        · rename_i ds1 h2 hrec
          cases hd
          obtain ⟨S1, m1, nx1, r1, g1⟩ := sealG_sound hs m hr.head (hg d (by simp))
          have ht := hr.tail
          obtain ⟨S2, m2, nx2, r2, g2⟩ := sealGs_sound ds h1 α S1 ds1 h' vs hrec m1 ⟨ht.1, fun i v d e1 e2 => nx1.rep (ht.2 i v d e1 e2)⟩ (fun x hx => hg x (by simp [hx]))
          exact ⟨S2, m2, nx1.trans nx2, .cons (nx2.rep r1) r2, fun x hx => by
            rcases List.mem_cons.1 hx with rfl | hx
            · exact g1
            · exact g2 x hx⟩

theorem rowOf_spec {t e : TypeId} {i : TI} {z : D} (hr : rowOf P t = some (e, i, z)) : P.underlying t = some (.slice e) ∧ tiOf P e = some i ∧ z.good = true ∧ z.cells.length = i.size ∧
    ∃ inf zv, P.info? e = some inf ∧ inf.zero = some zv ∧ inf.size = i.size ∧ inf.bytes = i.bytes ∧ constD zv = some z := by
  unfold rowOf at hr
  split at hr
  · cases hr
  · rename_i e' i' he
    split at hr
    · cases hr
    · rename_i z' hz
      split at hr
      · rename_i hb
        cases hr
        obtain ⟨u1, u2⟩ := eltOf_spec he
        refine ⟨u1, u2, hb.1, hb.2, ?_⟩
        obtain ⟨inf, d, h1, h2, h3⟩ := tiOf_spec u2
        unfold zeroD at hz
        rw [h1] at hz
        split at hz
        · rename_i i2 hi2
          cases hi2
          split at hz
          · rename_i zv hzv
            exact ⟨_, zv, h1, hzv, by rw [h3], by rw [h3], hz⟩
          · cases hz
        · cases hz
      · cases hr

theorem RepV.zero_cells {zv : Value} {z : D} (hz : constD zv = some z) (hg : z.good = true) : zv.cells.size = z.cells.length ∧ ∀ (i : Nat) (u : Value) (c : D), zv.cells[i]? = some u → z.cells[i]? = some c → RepV α S w u c :=
  (constD_rep hz).cellsOf hg

/-- A row of zero values. -/
theorem zero_row {zv : Value} {z : D} (hz : constD zv = some z) (hg : z.good = true) (n : Nat) {k : Nat} {c : D} (hk : (flatD (List.replicate n z))[k]? = some c) :
    ∃ v, zv.cells[k % zv.cells.size]? = some v ∧ RepV α S w v c := by
  obtain ⟨h1, h2⟩ := RepV.zero_cells (α := α) (S := S) (w := w) hz hg
  obtain ⟨i, x, j, rfl, hj, e3, e4⟩ := flat_inv (sz := z.cells.length) (List.replicate n z) (fun x hx => by rw [(List.mem_replicate.1 hx).2]) k c hk
  have hx : x = z := by
    have hi : i < n := by have := (List.getElem?_eq_some_iff.1 e3).1; simpa using this
    simp [hi] at e3
    exact e3.symm
  subst hx
  have hmod : (i * x.cells.length + j) % zv.cells.size = j := by rw [h1, Nat.mul_comm, Nat.mul_add_mod]; exact Nat.mod_eq_of_lt hj
  rw [hmod]
  have hj' : j < zv.cells.size := by omega
  exact ⟨zv.cells[j], Array.getElem?_eq_getElem hj', h2 j _ c (Array.getElem?_eq_getElem hj') e4⟩

theorem zeros_get {zs : Array Value} {n k : Nat} (hk : k < n) (hz : 0 < zs.size) : ((Array.range n).map (fun i => zs[i % zs.size]!))[k]? = zs[k % zs.size]? := by
  have hm : k % zs.size < zs.size := Nat.mod_lt _ hz
  simp [hk, hm]

def buildSliceD (P : Program) (t : TypeId) (len : Nat) (parts : List (Nat × D)) (h : List Blk) : Option (D × List Blk) :=
  match rowOf P t with
  | none => none
  | some (e, i, _) => if parts.map (·.1) = List.range' 0 len ∧ len * i.size ≤ 2 ^ 24 ∧ goodAll (parts.map (·.2)) = true then
      (match sealGs (parts.map (·.2)) h with
      | none => none
      | some (ds, h') => if szAll i.size ds = true then some (.ref h'.length ds.length, h' ++ [.slice i.size e ds]) else none)
    else none

theorem buildSliceD_sound {t : TypeId} {len : Nat} {parts : List (Nat × D)} {d : D} {h' : List Blk} {vps : Array (Nat × Value)} (hd : buildSliceD P t len parts h = some (d, h')) (m : Mem B α S h w)
    (hi : vps.toList.map (·.1) = parts.map (·.1)) (hl : RepL α S w (vps.toList.map (·.2)) (parts.map (·.2))) :
    ∃ v w' α' S', (Instr.buildSlice t len vps).run P w = .ok v w' ∧ Mem B α' S' h' w' ∧ Nx α S w α' S' w' ∧ RepV α' S' w' v d := by
  unfold buildSliceD at hd
  split at hd
  · cases hd
  · rename_i e i z hrow
    split at hd
    · rename_i hb
      split at hd
      · cases hd
      · rename_i ds h1 hseal
        split at hd
        · rename_i hsz
          cases hd
          obtain ⟨u1, u2, zg, zl, inf, zv, v1, v2, v3, v4, v5⟩ := rowOf_spec hrow
          obtain ⟨S1, m1, nx1, r1, g1⟩ := sealGs_sound _ h α S ds h1 _ hseal m hl (goodAll_spec hb.2.2)
          have hlen : ds.length = len := by
            have a1 := congrArg List.length hb.1
            have a2 := r1.1
            have a3 := congrArg List.length hi
            simp at a1 a2 a3
            omega
          have hszs := szAll_spec hsz
          have hzc := RepV.zero_cells (α := α) (S := S1) (w := w) v5 zg
          -- the cells that the literal begins with
          let zero : Array Value := if len * i.size = 0 then #[] else zv.cells
          let start : Array Value := (Array.range (len * i.size)).map (fun k => zero[k % zero.size]!)
          have hstart : RepC α S1 w start.toList (flatD (List.replicate len z)) := by
            have hfl := flat_length (sz := i.size) (List.replicate len z) (fun x hx => by rw [(List.mem_replicate.1 hx).2, zl])
            simp only [List.length_replicate] at hfl
            refine ⟨by simp [start, hfl], flat_leaf (fun x hx => by rw [(List.mem_replicate.1 hx).2]; exact zg), fun k u c e1 e2 => ?_⟩
            have hk : k < len * i.size := by rw [← hfl]; exact (List.getElem?_eq_some_iff.1 e2).1
            have hz0 : zero = zv.cells := by simp only [zero]; rw [if_neg (by omega)]
            have hzp : 0 < zero.size := by
              rw [hz0, hzc.1, zl]
              rcases Nat.eq_zero_or_pos i.size with hzz | hzz
              · rw [hzz] at hk; omega
              · exact hzz
            have e1' : start[k]? = some u := by simpa using e1
            simp only [start] at e1'
            rw [zeros_get hk hzp, hz0] at e1'
            obtain ⟨v', f1, f2⟩ := zero_row (α := α) (S := S1) (w := w) v5 zg len e2
            rw [f1] at e1'
            cases e1'
            exact f2
          have hfill : fillD ((List.range len).map fun k => (k * i.size, i.size)) (flatD (List.replicate len z)) ((List.range' 0 ds.length).zip ds) = some (flatD ds) := by
            have := fillD_seq (sz := i.size) (pl := (List.range len).map fun k => (k * i.size, i.size)) (fun k p hp => by
              have hk : k < len := by have := (List.getElem?_eq_some_iff.1 hp).1; simpa using this
              simp [hk] at hp
              exact hp.symm) ds 0 [] (flatD (List.replicate len z)) (fun k hk => by simp; omega) (by simp) (by
                rw [flat_length (sz := i.size) (List.replicate len z) (fun x hx => by rw [(List.mem_replicate.1 hx).2, zl])]; simp [hlen]) hszs g1
            simpa using this
          have hzip : ((List.range' 0 ds.length).zip ds).map (·.1) = List.range' 0 ds.length := by
            rw [List.map_fst_zip]; simp
          have hzip2 : ((List.range' 0 ds.length).zip ds).map (·.2) = ds := by
            rw [List.map_snd_zip]; simp
          obtain ⟨vs', f1, f2⟩ := fill_sound (α := α) (S := S1) (w := w) ((List.range len).map fun k => (k * i.size, i.size)) (fun k => some (k * i.size, i.size)) (fun k p hp => by
              have hk : k < len := by have := (List.getElem?_eq_some_iff.1 hp).1; simpa using this
              simp [hk] at hp
              rw [hp]) ((List.range' 0 ds.length).zip ds) vps.toList (flatD (List.replicate len z)) (flatD ds) start hfill (by rw [hi, hb.1, hzip, hlen]) (by rw [hzip2]; exact r1) hstart
          have hvs : vs'.size = ds.length * i.size := by
            have := f2.1
            simp only [Array.length_toList] at this
            rw [this, flat_length ds hszs]
          obtain ⟨m2, nx2, rr⟩ := newSlice_sound (esz := i.size) (cap := ds.length) (ty := e) (xs := ds) (cur := vs') (fr := (0, 0)) (w' := w.alloc (.cells vs' e)) m1 rfl ⟨rfl, rfl, rfl⟩ (fun o _ => by simp) (by omega) (Nat.le_refl _) hszs g1 (fun k c hk => by
            obtain ⟨v, g2, g3, _⟩ := f2.at hk
            exact ⟨v, by simpa using g2, g3⟩)
          refine ⟨_, _, _, _, ?_, m2, nx1.trans nx2, rr⟩
          simp only [Instr.buildSlice, Sem.run_bind, run_underlying u1, Result.andThen_ok, run_sizeOf' u2]
          rw [if_neg (by omega)]
          rw [hlen]
          have hf : Instr.fill (fun k => some (k * i.size, i.size)) ((Array.range (len * i.size)).map (fun k => zero[k % zero.size]!)) vps.toList = some vs' := f1
          by_cases hz0 : len * i.size = 0
          · have hzz : zero = #[] := by simp [zero, hz0]
            rw [hzz] at hf
            rw [if_pos hz0]
            simp only [Sem.run_bind, Sem.run_pure, Result.andThen_ok, hf, newRow, run_newObj, World.alloc_eq]
          · have hzz : zero = zv.cells := by simp [zero, hz0]
            rw [hzz] at hf
            rw [if_neg hz0]
            have hzv : (zeroValue e).run P w = .ok zv w := by simp [zeroValue, typeInfo, v1, v2]
            simp only [Sem.run_bind, Sem.run_pure, Result.andThen_ok, hzv, hf, newRow, run_newObj, World.alloc_eq]
        · cases hd
    · cases hd

end
end Go.Ab
