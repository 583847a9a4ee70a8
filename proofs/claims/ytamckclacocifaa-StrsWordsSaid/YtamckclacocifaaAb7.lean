/- Bytes as a string, lengths, least and greatest, structs and arrays put together. -/
import Derived.Test.YtamckclacocifaaAb6
namespace Go.Ab

def intD : D → Int
  | .int _ n => n
  | _ => 0

theorem bytesD_spec : ∀ (xs : List D) (l : List UInt8), bytesD xs = some l → (∀ x ∈ xs, x = .int .u8 (intD x)) ∧ l = (xs.map intD).map fun n => UInt8.ofNat n.toNat
  | [], l, h => by cases h; exact ⟨fun x hx => (by cases hx), rfl⟩
  | x :: xs, l, h => by
    cases x with
    | int k n =>
      cases k <;> simp only [bytesD] at h <;> first
        | (cases h; done)
        | skip
      split at h
      · rename_i l' hl
        cases h
        obtain ⟨h1, h2⟩ := bytesD_spec xs l' hl
        refine ⟨fun y hy => ?_, by simp [intD, h2]⟩
        rcases List.mem_cons.1 hy with rfl | hy
        · rfl
        · exact h1 y hy
      · cases h
    | _ => simp [bytesD] at h

def convR (P : Program) (src dst : TypeId) (x : D) (h : List Blk) : Option D :=
  match x with
  | .list xs => if isBytesT P src = true ∧ isStrT P dst = true then (match bytesD xs with
    | some l => some (.str l)
    | none => none) else none
  | .ref id n => match h[id]? with
    | some (.slice _ _ xs) => if isBytesT P src = true ∧ isStrT P dst = true ∧ xs.length = n then (match bytesD xs with
      | some l => some (.str l)
      | none => none) else none
    | _ => none
  | x => convP P src dst x

section
variable {P : Program} {α : List Value} {S : Nat → Prop} {w : World}

theorem isBytesT_spec {t : TypeId} (h : isBytesT P t = true) : ∃ e, P.underlying t = some (.slice e) ∧ P.underlying e = some (.int .u8) := by
  unfold isBytesT at h
  split at h
  · rename_i e he
    split at h
    · exact ⟨e, he, by assumption⟩
    · cases h
  · cases h

theorem strOfNums_rep (xs : List D) {l : List UInt8} (h : bytesD xs = some l) : RepV α S w (.string (strOfNums (xs.map intD))) (.str l) := by
  obtain ⟨_, h2⟩ := bytesD_spec xs l h
  have := RepV.str' (α := α) (S := S) (w := w) (strOfNums (xs.map intD))
  rw [strOfNums_data, ← h2] at this
  exact this

theorem bytes_cell {xs : List D} {l : List UInt8} (h : bytesD xs = some l) {i : Nat} (hi : i < xs.length) : xs[i]? = some (.int .u8 ((xs.map intD).getD i 0)) := by
  obtain ⟨h1, _⟩ := bytesD_spec xs l h
  have hx := h1 xs[i] (List.getElem_mem hi)
  rw [List.getElem?_eq_getElem hi]
  simp only [List.getD, List.getElem?_map, List.getElem?_eq_getElem hi, Option.map_some, Option.getD_some]
  rw [← hx]

theorem bytes_esz {xs : List D} {l : List UInt8} (h : bytesD xs = some l) {esz : Nat} (he : ∀ x ∈ xs, x.cells.length = esz ∧ x.good = true) (hne : 0 < xs.length) : esz = 1 := by
  have hx := bytes_cell h hne
  have := (he _ (List.mem_of_getElem? hx)).1
  simpa [D.cells] using this.symm

theorem convR_sound (src dst : TypeId) {x d : D} {h : List Blk} {a : Value} (hd : convR P src dst x h = some d) (hx : RepV α S w a x) (rh : RepH α S h w) :
    ∃ v, (convert src dst a).run P w = .ok v w ∧ RepV α S w v d := by
  unfold convR at hd
  split at hd
  · rename_i xs
    split at hd
    · rename_i hb
      split at hd
      · rename_i l hl
        cases hd
        obtain ⟨e, e1, e2⟩ := isBytesT_spec hb.1
        have e3 := isStrT_spec hb.2
        rcases hx.list_form with ⟨rfl, rfl⟩ | ⟨b, off, cap, esz, rfl, hcap, hS, hes, cv, hc, hr⟩
        · cases hl
          exact ⟨_, run_convert_bytes_nil w src e e1 e2 0 0 dst e3, .str []⟩
        · refine ⟨_, run_convert_bytes_arg w src e e1 e2 b off xs.length cap (xs.map intD) (by simp) (fun i hi => ?_) dst e3, strOfNums_rep xs hl⟩
          have hez := bytes_esz hl hes (by omega)
          subst hez
          have hx := bytes_cell hl hi
          have h1 := hc i _ 0 (.int .u8 ((xs.map intD).getD i 0)) hx rfl
          have h2 := hr i _ 0 (.int .u8 ((xs.map intD).getD i 0)) hx rfl
          cases hcv : cv i 0 with
          | int k n =>
            rw [hcv] at h2
            cases h2
            rw [hcv] at h1
            rw [Nat.mul_one, Nat.add_zero] at h1
            exact h1
          | _ => rw [hcv] at h2; cases h2
      · cases hd
    · cases hd
  · rename_i id n
    split at hd
    · rename_i esz ty xs hblk
      split at hd
      · rename_i hb
        split at hd
        · rename_i l hl
          cases hd
          obtain ⟨e, e1, e2⟩ := isBytesT_spec hb.1
          have e3 := isStrT_spec hb.2.1
          obtain ⟨_, hform⟩ := hx.ref_now rh hblk hb.2.2
          rcases hform with ⟨rfl, rfl⟩ | ⟨b, off, cap, vs, fr, rfl, h1, h2, h3, h4, h5, h6⟩
          · cases hl
            exact ⟨_, run_convert_bytes_nil w src e e1 e2 0 0 dst e3, .str []⟩
          · refine ⟨_, run_convert_bytes_arg w src e e1 e2 b off xs.length cap (xs.map intD) (by simp) (fun i hi => ?_) dst e3, strOfNums_rep xs hl⟩
            have hez := bytes_esz hl h5 (by omega)
            subst hez
            have hx := bytes_cell hl hi
            obtain ⟨v, f1, f2⟩ := h6 i _ 0 (.int .u8 ((xs.map intD).getD i 0)) hx rfl
            cases f2
            rw [cell_of_heap h1]
            rw [Nat.mul_one, Nat.add_zero] at f1
            exact f1
        · cases hd
      · cases hd
    · cases hd
  · exact convP_sound src dst hd hx

def lenD (P : Program) (t : TypeId) (x : D) : Option D :=
  match x with
  | .str s => if isStrT P t = true then some (.int .i64 s.length) else none
  | .list xs => match eltOf P t with
    | some _ => some (.int .i64 xs.length)
    | none => none
  | .ref _ n => match eltOf P t with
    | some _ => some (.int .i64 n)
    | none => none
  | .nils => match eltOf P t with
    | some _ => some (.int .i64 0)
    | none => none
  | _ => none

theorem run_len_slice' {t ty e : TypeId} (h : P.underlying t = some (.slice e)) (b : Option Addr) (n c : Nat) : (Builtin.len_ #[t] ty #[.slice b n c]).run P w = .ok (.int .i64 n) w := by
  simp [Builtin.len_, run_underlying h, goInt]

theorem lenD_sound {t ty : TypeId} {x d : D} {a : Value} (h : lenD P t x = some d) (hx : RepV α S w a x) : ∃ v, (Builtin.len_ #[t] ty #[a]).run P w = .ok v w ∧ RepV α S w v d := by
  unfold lenD at h
  split at h
  · rename_i s
    split at h
    · rename_i hs
      cases h
      cases hx
      refine ⟨_, run_len_string w t ty _ (isStrT_spec hs), ?_⟩
      simpa [goInt, ByteArray.size] using RepV.int (α := α) (S := S) (w := w) .i64 (s.length : Int)
    · cases h
  · rename_i xs
    split at h
    · rename_i r he
      cases h
      obtain ⟨u1, _⟩ := eltOf_spec (e := r.1) (i := r.2) he
      rcases hx.list_form with ⟨rfl, rfl⟩ | ⟨b, off, cap, esz, rfl, _⟩
      · exact ⟨_, run_len_slice' u1 _ _ _, .int _ _⟩
      · exact ⟨_, run_len_slice' u1 _ _ _, .int _ _⟩
    · cases h
  · rename_i id n
    split at h
    · rename_i r he
      cases h
      obtain ⟨u1, _⟩ := eltOf_spec (e := r.1) (i := r.2) he
      obtain ⟨c, k, h1, h2, h3, h4, h5⟩ := hx.ref_form
      cases a with
      | slice b n' cap =>
        cases h4
        exact ⟨_, run_len_slice' u1 _ _ _, .int _ _⟩
      | _ => cases h4
    · cases h
  · split at h
    · rename_i r he
      cases h
      cases hx
      obtain ⟨u1, _⟩ := eltOf_spec (e := r.1) (i := r.2) he
      exact ⟨_, run_len_slice' u1 _ _ _, .int _ _⟩
    · cases h
  · cases h

/-- The least, the greatest of some integers of one kind. -/
def minD : List D → Option D
  | [.int k a, .int k' b] => if k = k' then some (.int k (if b < a then b else a)) else none
  | _ => none

def maxD : List D → Option D
  | [.int k a, .int k' b] => if k = k' then some (.int k (if b > a then b else a)) else none
  | _ => none

/-- Values that stand for a list of data. -/
def RepL (α : List Value) (S : Nat → Prop) (w : World) (vs : List Value) (ds : List D) : Prop :=
  vs.length = ds.length ∧ ∀ (i : Nat) (v : Value) (d : D), vs[i]? = some v → ds[i]? = some d → RepV α S w v d

theorem RepL.nil : RepL α S w [] [] := ⟨rfl, fun i v d h => by simp at h⟩

theorem RepL.cons {v : Value} {vs : List Value} {d : D} {ds : List D} (h : RepV α S w v d) (t : RepL α S w vs ds) : RepL α S w (v :: vs) (d :: ds) :=
  ⟨by simp [t.1], fun i u c e1 e2 => by
    cases i with
    | zero => simp at e1 e2; subst e1; subst e2; exact h
    | succ i => exact t.2 i u c (by simpa using e1) (by simpa using e2)⟩

theorem RepL.head {v : Value} {vs : List Value} {d : D} {ds : List D} (h : RepL α S w (v :: vs) (d :: ds)) : RepV α S w v d := h.2 0 v d rfl rfl

theorem RepL.tail {v : Value} {vs : List Value} {d : D} {ds : List D} (h : RepL α S w (v :: vs) (d :: ds)) : RepL α S w vs ds :=
  ⟨by simpa using h.1, fun i u c e1 e2 => h.2 (i + 1) u c (by simpa using e1) (by simpa using e2)⟩

theorem RepL.one {vs : List Value} {d : D} (h : RepL α S w vs [d]) : ∃ v, vs = [v] ∧ RepV α S w v d := by
  cases vs with
  | nil => cases h.1
  | cons v vs =>
    cases vs with
    | nil => exact ⟨v, rfl, h.head⟩
    | cons u us => have := h.1; simp at this

theorem RepL.two {vs : List Value} {d e : D} (h : RepL α S w vs [d, e]) : ∃ v u, vs = [v, u] ∧ RepV α S w v d ∧ RepV α S w u e := by
  cases vs with
  | nil => cases h.1
  | cons v vs =>
    obtain ⟨u, rfl, hu⟩ := h.tail.one
    exact ⟨v, u, rfl, h.head, hu⟩

theorem minD_sound {ts : Array TypeId} {ty : TypeId} {ds : List D} {d : D} {vs : List Value} (h : minD ds = some d) (hr : RepL α S w vs ds) : ∃ v, (Builtin.min_ ts ty vs.toArray).run P w = .ok v w ∧ RepV α S w v d := by
  unfold minD at h
  split at h
  · split at h
    · cases h
      obtain ⟨v, u, rfl, h1, h2⟩ := hr.two
      cases h1; cases h2
      exact ⟨_, run_min_int2 w ts ty _ _ _ _, .int _ _⟩
    · cases h
  · cases h

theorem maxD_sound {ts : Array TypeId} {ty : TypeId} {ds : List D} {d : D} {vs : List Value} (h : maxD ds = some d) (hr : RepL α S w vs ds) : ∃ v, (Builtin.max_ ts ty vs.toArray).run P w = .ok v w ∧ RepV α S w v d := by
  unfold maxD at h
  split at h
  · split at h
    · cases h
      obtain ⟨v, u, rfl, h1, h2⟩ := hr.two
      cases h1; cases h2
      exact ⟨_, run_max_int2 w ts ty _ _ _ _, .int _ _⟩
    · cases h
  · cases h

/-! ### Structs and arrays put together -/

def putAt (cs : List D) (off : Nat) (xs : List D) : List D := cs.take off ++ (xs ++ cs.drop (off + xs.length))

def fillD (pl : List (Nat × Nat)) (cs : List D) : List (Nat × D) → Option (List D)
  | [] => some cs
  | (i, d) :: rest => match pl[i]? with
    | none => none
    | some (off, size) => if d.cells.length = size ∧ off + size ≤ cs.length ∧ d.good = true then fillD pl (putAt cs off d.cells) rest else none

def fieldPlaces (P : Program) : List Field → Option (List (Nat × Nat))
  | [] => some []
  | f :: fs => match tiOf P f.type with
    | none => none
    | some i => match fieldPlaces P fs with
      | none => none
      | some l => some ((f.offset, i.size) :: l)

/-- Where the parts of a struct or an array lie, and its zero value's cells. -/
def placesOf (P : Program) (t : TypeId) : Option (List (Nat × Nat)) :=
  match P.underlying t with
  | some (.struct fs) => fieldPlaces P fs.toList
  | some (.array n e) => match tiOf P e with
    | some i => some ((List.range n).map fun k => (k * i.size, i.size))
    | none => none
  | _ => none

def zeroD (P : Program) (t : TypeId) : Option D :=
  match P.info? t with
  | some i => match i.zero with
    | some z => constD z
    | none => none
  | none => none

def buildD (P : Program) (t : TypeId) (parts : List (Nat × D)) : Option D :=
  match placesOf P t, zeroD P t with
  | some pl, some (.agg zs) => match fillD pl zs parts with
    | some cs => some (.agg cs)
    | none => none
  | _, _ => none


theorem putAt_get (cs : List D) (off : Nat) (xs : List D) (h : off + xs.length ≤ cs.length) (k : Nat) : (putAt cs off xs)[k]? = if off ≤ k ∧ k < off + xs.length then xs[k - off]? else cs[k]? := by
  unfold putAt
  have h1 : (cs.take off).length = off := by simp; omega
  by_cases hk : k < off
  · rw [List.getElem?_append_left (by omega), List.getElem?_take, if_pos hk, if_neg (by omega)]
  · rw [List.getElem?_append_right (by omega), h1]
    by_cases hk2 : k < off + xs.length
    · rw [List.getElem?_append_left (by omega), if_pos ⟨by omega, hk2⟩]
    · rw [List.getElem?_append_right (by omega), List.getElem?_drop, if_neg (by omega)]
      congr 1
      omega

theorem putAt_length (cs : List D) (off : Nat) (xs : List D) (h : off + xs.length ≤ cs.length) : (putAt cs off xs).length = cs.length := by
  simp [putAt]; omega

theorem foldl_put (off : Nat) : ∀ (l : List Value) (j0 : Nat) (cs : Array Value), ((l.zipIdx j0).foldl (fun cs (c, j) => cs.setIfInBounds (off + j) c) cs).size = cs.size ∧
    ∀ k, (off + j0 + l.length ≤ cs.size) → ((l.zipIdx j0).foldl (fun cs (c, j) => cs.setIfInBounds (off + j) c) cs)[k]? = if off + j0 ≤ k ∧ k < off + j0 + l.length then l[k - (off + j0)]? else cs[k]?
  | [], j0, cs => ⟨rfl, fun k _ => by rw [if_neg (by simp <;> omega)]; rfl⟩
  | c :: l, j0, cs => by
    obtain ⟨h1, h2⟩ := foldl_put off l (j0 + 1) (cs.setIfInBounds (off + j0) c)
    simp only [List.zipIdx_cons, List.foldl_cons]
    refine ⟨by rw [h1]; simp, fun k hk => ?_⟩
    simp only [List.length_cons] at hk
    rw [h2 k (by simp; omega)]
    simp only [List.length_cons]
    by_cases hk1 : k = off + j0
    · subst hk1
      rw [if_neg (by omega), if_pos (by omega), Nat.sub_self]
      simp [Array.getElem?_setIfInBounds] <;> omega
    · by_cases hk2 : off + (j0 + 1) ≤ k ∧ k < off + (j0 + 1) + l.length
      · rw [if_pos hk2, if_pos (by omega)]
        rw [show k - (off + j0) = (k - (off + (j0 + 1))) + 1 by omega, List.getElem?_cons_succ]
      · rw [if_neg hk2, if_neg (by omega)]
        rw [Array.getElem?_setIfInBounds_ne (by omega)]

theorem fill_sound (pl : List (Nat × Nat)) (place : Nat → Option (Nat × Nat)) (hpl : ∀ (i : Nat) (p : Nat × Nat), pl[i]? = some p → place i = some p) : ∀ (ps : List (Nat × D)) (vps : List (Nat × Value)) (cs out : List D) (vs : Array Value),
    fillD pl cs ps = some out → vps.map (·.1) = ps.map (·.1) → RepL α S w (vps.map (·.2)) (ps.map (·.2)) → RepC α S w vs.toList cs → ∃ vs', Instr.fill place vs vps = some vs' ∧ RepC α S w vs'.toList out
  | [], vps, cs, out, vs, h, hi, _, hr => by
    cases h
    cases vps with
    | nil => exact ⟨vs, rfl, hr⟩
    | cons p vps => simp at hi
  | (i, d) :: ps, vps, cs, out, vs, h, hi, hl, hr => by
    cases vps with
    | nil => simp at hi
    | cons p vps =>
      obtain ⟨i', v⟩ := p
      simp only [List.map_cons, List.cons.injEq] at hi
      obtain ⟨rfl, hi⟩ := hi
      simp only [fillD] at h
      split at h
      · cases h
      · rename_i off size hp
        split at h
        · rename_i hb
          obtain ⟨b1, b2, b3⟩ := hb
          have hv : RepV α S w v d := RepL.head (by simpa using hl)
          obtain ⟨c1, c2⟩ := hv.cellsOf b3
          have hfp := foldl_put off v.cells.toList 0 vs
          have hsz : vs.size = cs.length := by simpa using hr.1
          have step : RepC α S w ((v.cells.zipIdx.foldl (fun cs (c, j) => cs.setIfInBounds (off + j) c) vs).toList) (putAt cs off d.cells) := by
            have e0 : v.cells.zipIdx.foldl (fun cs (c, j) => cs.setIfInBounds (off + j) c) vs = (v.cells.toList.zipIdx 0).foldl (fun cs (c, j) => cs.setIfInBounds (off + j) c) vs := by
              rw [← Array.foldl_toList]
              simp
            rw [e0]
            have hlen : v.cells.toList.length = d.cells.length := by simpa using c1
            refine ⟨?_, fun c hc => ?_, fun k u c e1 e2 => ?_⟩
            · rw [putAt_length cs off d.cells (by omega)]
              simp only [Array.length_toList]
              rw [hfp.1, hsz]
            · unfold putAt at hc
              rcases List.mem_append.1 hc with hc | hc
              · exact hr.2.1 c (List.mem_of_mem_take hc)
              · rcases List.mem_append.1 hc with hc | hc
                · exact D.leaf_of_good b3 hc
                · exact hr.2.1 c (List.mem_of_mem_drop hc)
            · rw [putAt_get cs off d.cells (by omega)] at e2
              have e1' : ((v.cells.toList.zipIdx 0).foldl (fun cs (c, j) => cs.setIfInBounds (off + j) c) vs)[k]? = some u := by simpa using e1
              rw [hfp.2 k (by rw [hlen]; omega), hlen] at e1'
              simp only [Nat.add_zero] at e1'
              by_cases hk : off ≤ k ∧ k < off + d.cells.length
              · rw [if_pos hk] at e1' e2
                exact c2 (k - off) u c (by simpa using e1') e2
              · rw [if_neg hk] at e1' e2
                exact hr.2.2 k u c (by simpa using e1') e2
          obtain ⟨vs', f1, f2⟩ := fill_sound pl place hpl ps vps (putAt cs off d.cells) out _ h hi (RepL.tail (by simpa using hl)) step
          refine ⟨vs', ?_, f2⟩
          simp only [Instr.fill, hpl _ _ hp]
          rw [if_neg (by simp [c1, b1, hsz]; omega)]
          exact f1
        · cases h

theorem zeroD_spec {t : TypeId} {d : D} (h : zeroD P t = some d) : ∃ z, (zeroValue t).run P w = .ok z w ∧ RepV α S w z d := by
  unfold zeroD at h
  split at h
  · rename_i i hi
    split at h
    · rename_i z hz
      exact ⟨z, by simp [zeroValue, typeInfo, hi, hz], constD_rep h⟩
    · cases h
  · cases h

theorem mapM_places {β : Type} (f : Field → Sem β) (g : Field → β) (hf : ∀ x : Field, ∀ r, fieldPlaces P [x] = some r → (f x).run P w = .ok (g x) w) : ∀ (l : List Field) (r : List (Nat × Nat)), fieldPlaces P l = some r →
    (l.mapM f).run P w = .ok (l.map g) w
  | [], _, _ => by simp
  | x :: l, r, h => by
    unfold fieldPlaces at h
    split at h
    · cases h
    · rename_i i hi
      split at h
      · cases h
      · rename_i r' hr
        cases h
        rw [List.mapM_cons]
        simp only [Sem.run_bind, hf x [(x.offset, i.size)] (by simp [fieldPlaces, hi]), Result.andThen_ok, mapM_places f g hf l r' hr, Sem.run_pure, List.map_cons]

theorem fieldPlaces_get : ∀ (l : List Field) (r : List (Nat × Nat)), fieldPlaces P l = some r → r = l.map (fun f => (f.offset, P.cellsOf f.type))
  | [], _, h => by cases h; rfl
  | x :: l, r, h => by
    unfold fieldPlaces at h
    split at h
    · cases h
    · rename_i i hi
      split at h
      · cases h
      · rename_i r' hr
        cases h
        obtain ⟨inf, d, h1, h2, rfl⟩ := tiOf_spec hi
        rw [List.map_cons, ← fieldPlaces_get l r' hr]
        simp [Program.cellsOf, h1]

theorem buildD_sound {t : TypeId} {parts : List (Nat × D)} {d : D} {vps : Array (Nat × Value)} (h : buildD P t parts = some d) (hi : vps.toList.map (·.1) = parts.map (·.1))
    (hl : RepL α S w (vps.toList.map (·.2)) (parts.map (·.2))) : ∃ v, (Instr.build t vps).run P w = .ok v w ∧ RepV α S w v d := by
  unfold buildD at h
  split at h
  · rename_i pl zs hpl hz
    split at h
    · rename_i cs hcs
      cases h
      obtain ⟨z, hz1, hz2⟩ := zeroD_spec (w := w) (α := α) (S := S) hz
      cases z with
      | agg zv =>
        have hzr := RepC.of_agg hz2
        unfold placesOf at hpl
        split at hpl
        · rename_i fs hfs
          have hpl' := fieldPlaces_get _ _ hpl
          obtain ⟨vs', f1, f2⟩ := fill_sound (α := α) (S := S) (w := w) pl ((fs.map fun f => (f.offset, P.cellsOf f.type))[·]?) (fun i p e => by
            rw [hpl'] at e
            simpa using e) parts vps.toList zs cs zv hcs hi hl hzr
          refine ⟨.agg vs', ?_, by simpa using f2.agg⟩
          have hm : (fs.mapM fun f => (do pure (f.offset, ← sizeOf f.type) : Sem (Nat × Nat))).run P w = .ok (fs.map fun f => (f.offset, P.cellsOf f.type)) w := by
            rw [Array.mapM_eq_mapM_toList]
            simp only [Sem.run_map]
            rw [mapM_places (P := P) (w := w) (fun f => (do pure (f.offset, ← sizeOf f.type) : Sem (Nat × Nat))) (fun f => (f.offset, P.cellsOf f.type)) (fun x r hr => by
              unfold fieldPlaces at hr
              split at hr
              · cases hr
              · rename_i i hi
                obtain ⟨inf, d, h1, h2, rfl⟩ := tiOf_spec hi
                simp [run_sizeOf' hi, Program.cellsOf, h1]) fs.toList pl hpl]
            simp only [Result.andThen_ok]
            congr 1
            apply Array.ext'
            simp
          simp only [Instr.build, Sem.run_bind, hz1, Result.andThen_ok, run_underlying hfs, Value.cells, hm, f1, Sem.run_pure]
        · rename_i n e he
          split at hpl
          · rename_i i hi'
            cases hpl
            obtain ⟨vs', f1, f2⟩ := fill_sound (α := α) (S := S) (w := w) ((List.range n).map fun k => (k * i.size, i.size)) (fun k => some (k * i.size, i.size)) (fun k p e => by
              have hk : k < n := by have := (List.getElem?_eq_some_iff.1 e).1; simpa using this
              simp [hk] at e
              rw [e]) parts vps.toList zs cs zv hcs hi hl hzr
            refine ⟨.agg vs', ?_, by simpa using f2.agg⟩
            simp only [Instr.build, Sem.run_bind, hz1, Result.andThen_ok, run_underlying he, Value.cells, run_sizeOf' hi', f1, Sem.run_pure]
          · cases hpl
        · cases hpl
      | _ => cases hz2
    · cases h
  · cases h

end
end Go.Ab
