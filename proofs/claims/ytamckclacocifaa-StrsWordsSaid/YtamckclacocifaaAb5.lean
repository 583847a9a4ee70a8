/- Parts of strings, slices, arrays and structs; loads; lengths. -/
import Derived.Test.YtamckclacocifaaAb4
namespace Go.Ab

def partD (i : TI) (off : Nat) (cs : List D) : Option D :=
  if i.agg then (if off + i.size ≤ cs.length then some (.agg ((cs.drop off).take i.size)) else none) else cs[off]?

/-- Cells that stand for a list of data. -/
def RepC (α : List Value) (S : Nat → Prop) (w : World) (vs : List Value) (cs : List D) : Prop :=
  vs.length = cs.length ∧ (∀ c ∈ cs, c.leaf = true) ∧ ∀ (i : Nat) (v : Value) (c : D), vs[i]? = some v → cs[i]? = some c → RepV α S w v c

section
variable {P : Program} {α : List Value} {S : Nat → Prop} {w : World}

theorem RepC.agg {vs : List Value} {cs : List D} (h : RepC α S w vs cs) : RepV α S w (.agg vs.toArray) (.agg cs) :=
  .agg vs.toArray cs (by simpa using h.1) h.2.1 fun i v c e1 e2 => h.2.2 i v c (by simpa using e1) e2

theorem RepC.drop {vs : List Value} {cs : List D} (h : RepC α S w vs cs) (n : Nat) : RepC α S w (vs.drop n) (cs.drop n) :=
  ⟨by simp [h.1], fun c hc => h.2.1 c (List.mem_of_mem_drop hc), fun i v c e1 e2 => by rw [List.getElem?_drop] at e1 e2; exact h.2.2 _ v c e1 e2⟩

theorem RepC.take {vs : List Value} {cs : List D} (h : RepC α S w vs cs) (n : Nat) : RepC α S w (vs.take n) (cs.take n) :=
  ⟨by simp [h.1], fun c hc => h.2.1 c (List.mem_of_mem_take hc), fun i v c e1 e2 => by
    rw [List.getElem?_take] at e1 e2
    split at e1
    · rename_i hi; rw [if_pos hi] at e2; exact h.2.2 _ v c e1 e2
    · cases e1⟩

theorem RepC.at {vs : List Value} {cs : List D} (h : RepC α S w vs cs) {i : Nat} {c : D} (hc : cs[i]? = some c) : ∃ v, vs[i]? = some v ∧ RepV α S w v c ∧ c.leaf = true := by
  have hi : i < vs.length := by rw [h.1]; exact (List.getElem?_eq_some_iff.1 hc).1
  exact ⟨vs[i], List.getElem?_eq_getElem hi, h.2.2 i _ c (List.getElem?_eq_getElem hi) hc, h.2.1 c (List.mem_of_getElem? hc)⟩

theorem RepC.of_agg {vs : Array Value} {cs : List D} (h : RepV α S w (.agg vs) (.agg cs)) : RepC α S w vs.toList cs := by
  cases h with
  | agg _ _ hs hl hc => exact ⟨by simpa using hs, hl, fun i v c e1 e2 => hc i v c (by simpa using e1) e2⟩

theorem part_sound {t : TypeId} {i : TI} (ht : tiOf P t = some i) {off : Nat} {vs : Array Value} {cs : List D} {d : D} (h : partD i off cs = some d) (hr : RepC α S w vs.toList cs) :
    ∃ v, (part t vs off).run P w = .ok v w ∧ RepV α S w v d := by
  unfold partD at h
  simp only [part, Sem.run_bind, run_isAgg' ht, Result.andThen_ok]
  split at h
  · rename_i ha
    split at h
    · rename_i hl
      cases h
      refine ⟨_, by simp only [ha, if_true, Sem.run_bind, run_sizeOf' ht, Result.andThen_ok, Sem.run_pure]; rfl, ?_⟩
      have := ((hr.drop off).take i.size).agg
      have e : (vs.toList.drop off |>.take i.size).toArray = vs.extract off (off + i.size) := by
        apply Array.ext'
        simp [List.take_drop]
      rw [e] at this
      exact this
    · cases h
  · rename_i ha
    obtain ⟨v, hv, h1, h2⟩ := hr.at h
    refine ⟨v, ?_, h1⟩
    have : vs[off]? = some v := by simpa using hv
    simp [ha, this]

theorem run_loadVar {t : TypeId} {i : TI} (ht : tiOf P t = some i) {b off : Nat} {vs : List Value} {cs : List D} {d : D} (h : partD i 0 cs = some d) (hr : RepC α S w vs cs)
    (hc : ∀ j v, vs[j]? = some v → w.cell? ⟨b, off + j, none⟩ = some v) : ∃ v, (loadVar t ⟨b, off, none⟩).run P w = .ok v w ∧ RepV α S w v d := by
  have hadd : ∀ j, (⟨b, off, none⟩ : Addr).add j = ⟨b, off + j, none⟩ := fun j => by
    unfold Addr.add
    split
    · rename_i h; subst h; rfl
    · rfl
  unfold partD at h
  simp only [loadVar, Sem.run_bind, run_isAgg' ht, Result.andThen_ok]
  split at h
  · rename_i ha
    split at h
    · rename_i hl
      cases h
      rw [ha]
      simp only [if_true, Sem.run_bind, run_sizeOf' ht, Result.andThen_ok]
      have hlen : (vs.take i.size).length = i.size := by simp [hr.1]; omega
      have hld := run_loadCells_list (P := P) (w := w) ⟨b, off, none⟩ (vs.take i.size) (fun j v hj => by
        rw [hadd]
        rw [List.getElem?_take] at hj
        split at hj
        · exact hc j v hj
        · cases hj)
      rw [hlen] at hld
      refine ⟨.agg (vs.take i.size).toArray, ?_, by simpa using (hr.take i.size).agg⟩
      rw [hld]
      rfl
    · cases h
  · rename_i ha
    obtain ⟨v, hv, h1, h2⟩ := hr.at h
    refine ⟨v, ?_, h1⟩
    have := hc 0 v hv
    rw [if_neg (by simpa using ha)]
    simp only [run_load]
    have e : (⟨b, off + 0, none⟩ : Addr) = ⟨b, off, none⟩ := rfl
    rw [e] at this
    rw [this]


theorem Addr.add_none (b o n : Nat) : (⟨b, o, none⟩ : Addr).add n = ⟨b, o + n, none⟩ := by
  unfold Addr.add
  split
  · rename_i h; subst h; rfl
  · rfl

theorem Addr.add_some (x : Addr) (n : Nat) : ∃ y, x.add n = y := ⟨_, rfl⟩

def fieldD (P : Program) (t : TypeId) (f : Nat) (x : D) : Option D :=
  match x with
  | .agg cs => match fldOf P t f with
    | some (o, i) => partD i o cs
    | none => none
  | _ => none

theorem fieldD_sound {t : TypeId} {f : Nat} {x d : D} {a : Value} (h : fieldD P t f x = some d) (hx : RepV α S w a x) : ∃ v, (Instr.field t a f).run P w = .ok v w ∧ RepV α S w v d := by
  unfold fieldD at h
  split at h
  · rename_i cs
    split at h
    · rename_i o i hf
      obtain ⟨fs, fd, h1, h2, h3, h4⟩ := fldOf_spec hf
      cases a with
      | agg vs =>
        have hr := RepC.of_agg hx
        subst h3
        obtain ⟨v, hv, hd⟩ := part_sound h4 h hr
        exact ⟨v, by simp only [Instr.field, Sem.run_bind, run_underlying h1, Result.andThen_ok, h2, asAgg, Sem.run_pure]; exact hv, hd⟩
      | _ => cases hx
    · cases h
  · cases h

/-- A pointer that the engine knows, moved on by some cells. -/
def movD (x : D) (o : Nat) : Option D :=
  match x with
  | .pd cs => some (.pd (cs.drop o))
  | .ptr id off => some (.ptr id (off + o))
  | .eptr id n esz k off => some (.eptr id n esz k (off + o))
  | _ => none

def fieldAddrD (P : Program) (t : TypeId) (f : Nat) (x : D) : Option D :=
  match fldOf P t f with
  | none => none
  | some (o, i) => if i.size = 0 then none else movD x o

theorem RepV.pd_drop {b off o : Nat} {cs : List D} (h : RepV α S w (.pointer (some ⟨b, off, none⟩)) (.pd cs)) : RepV α S w (.pointer (some ⟨b, off + o, none⟩)) (.pd (cs.drop o)) := by
  cases h with
  | pd _ _ _ cv hS hl hc hr =>
    refine .pd b (off + o) (cs.drop o) (fun j => cv (o + j)) hS (fun c hc' => hl c (List.mem_of_mem_drop hc')) (fun j c e => ?_) (fun j c e => ?_)
    · rw [List.getElem?_drop] at e
      rw [Nat.add_assoc]
      exact hc _ c e
    · rw [List.getElem?_drop] at e
      exact hr _ c e

theorem RepV.pd_form {a : Value} {cs : List D} (h : RepV α S w a (.pd cs)) : ∃ b off, a = .pointer (some ⟨b, off, none⟩) := by
  cases h with
  | pd b off => exact ⟨b, off, rfl⟩

theorem moved_sound {x : D} {a : Value} {o : Nat} {d : D} (hx : RepV α S w a x) (h : movD x o = some d) :
    ∃ ad, a = .pointer (some ad) ∧ RepV α S w (.pointer (some (ad.add o))) d := by
  cases hx with
  | pd b off cs cv hS hl hc hr =>
    cases h
    refine ⟨⟨b, off, none⟩, rfl, ?_⟩
    rw [Addr.add_none]
    exact (RepV.pd b off cs cv hS hl hc hr).pd_drop
  | ptr id off b hb =>
    cases h
    refine ⟨⟨b, off, none⟩, rfl, ?_⟩
    rw [Addr.add_none]
    exact .ptr id _ b hb
  | eptr id n k esz i off v a' ha hk hn hp hv =>
    cases h
    obtain ⟨y, rfl⟩ := hp
    refine ⟨y, rfl, .eptr id n k esz i (off + o) _ a' ha hk hn ⟨_, rfl⟩ fun e => ?_⟩
    obtain ⟨b, o', cap, e1, e2⟩ := hv e
    refine ⟨b, o', cap, e1, ?_⟩
    cases e2
    rw [Addr.add_none]
    simp [Nat.add_assoc]
  | _ => cases h

theorem fieldAddrD_sound {t : TypeId} {f : Nat} {x d : D} {a : Value} (h : fieldAddrD P t f x = some d) (hx : RepV α S w a x) : ∃ v, (Instr.fieldAt t a f).run P w = .ok v w ∧ RepV α S w v d := by
  unfold fieldAddrD at h
  split at h
  · cases h
  · rename_i o i hf
    split at h
    · cases h
    · rename_i hz
      obtain ⟨fs, fd, h1, h2, h3, h4⟩ := fldOf_spec hf
      obtain ⟨ad, rfl, hr⟩ := moved_sound hx h
      subst h3
      exact ⟨_, by simp only [Instr.fieldAt, Sem.run_bind, run_underlying h1, Result.andThen_ok, h2, Instr.sureAddr, Sem.run_pure, fieldPlace, run_sizeOf' h4, hz, if_false], hr⟩

/-- Are all elements of this many cells? -/
def szAll (n : Nat) (xs : List D) : Bool := xs.all fun x => x.cells.length == n

theorem szAll_spec {n : Nat} {xs : List D} (h : szAll n xs = true) : ∀ x ∈ xs, x.cells.length = n := by
  intro x hx
  have := List.all_eq_true.1 h x hx
  simpa using this

def indexAddrD (P : Program) (t : TypeId) (x i : D) (h : List Blk) : Option D :=
  match i with
  | .int _ n =>
    match x with
    | .list xs => match eltOf P t with
      | some (_, ti) => if 0 ≤ n ∧ n < xs.length then (match xs[n.toNat]? with
        | some y => if y.cells.length = ti.size then some (.pd y.cells) else none
        | none => none) else none
      | none => none
    | .ref id m => match eltOf P t with
      | some (_, ti) => (match h[id]? with
        | some (.slice esz _ xs) => if ti.size = esz ∧ xs.length = m then (if 0 ≤ n ∧ n < xs.length then some (.eptr id m esz n.toNat 0) else none) else none
        | _ => none)
      | none => none
    | x => match arrOf P t with
      | some (len, ti) => if 0 ≤ n ∧ n < len then movD x (n.toNat * ti.size) else none
      | none => none
  | _ => none

theorem RepV.list_form {a : Value} {xs : List D} (h : RepV α S w a (.list xs)) : (a = .slice none 0 0 ∧ xs = []) ∨
    ∃ b off cap esz, a = .slice (some ⟨b, off, none⟩) xs.length cap ∧ xs.length ≤ cap ∧ S b ∧ (∀ x ∈ xs, x.cells.length = esz ∧ x.good = true) ∧
      ∃ cv : Nat → Nat → Value, (∀ (i : Nat) (x : D) (j : Nat) (c : D), xs[i]? = some x → x.cells[j]? = some c → w.cell? ⟨b, off + i * esz + j, none⟩ = some (cv i j)) ∧
        ∀ (i : Nat) (x : D) (j : Nat) (c : D), xs[i]? = some x → x.cells[j]? = some c → RepV α S w (cv i j) c := by
  cases h with
  | nil => exact .inl ⟨rfl, rfl⟩
  | list b off n cap esz xs cv hn hcap hS he hc hr => subst hn; exact .inr ⟨b, off, cap, esz, rfl, hcap, hS, he, cv, hc, hr⟩

theorem RepV.elem_pd {b off esz : Nat} {xs : List D} {x : D} {i : Nat} {cv : Nat → Nat → Value} (hS : S b) (he : ∀ x ∈ xs, x.cells.length = esz ∧ x.good = true)
    (hc : ∀ (i : Nat) (x : D) (j : Nat) (c : D), xs[i]? = some x → x.cells[j]? = some c → w.cell? ⟨b, off + i * esz + j, none⟩ = some (cv i j))
    (hr : ∀ (i : Nat) (x : D) (j : Nat) (c : D), xs[i]? = some x → x.cells[j]? = some c → RepV α S w (cv i j) c) (hx : xs[i]? = some x) :
    RepV α S w (.pointer (some ⟨b, off + i * esz, none⟩)) (.pd x.cells) :=
  .pd b (off + i * esz) x.cells (cv i) hS (fun _ hc' => D.leaf_of_good (he x (List.mem_of_getElem? hx)).2 hc') (fun j c e => hc i x j c hx e) (fun j c e => hr i x j c hx e)

theorem RepV.ref_form {a : Value} {id n : Nat} (h : RepV α S w a (.ref id n)) : ∃ c k, α[id]? = some c ∧ slen c = some k ∧ n ≤ k ∧ slen a = some n ∧ (n = k → a = c) := by
  cases h with
  | ref _ _ k v c h hk hn hs hv => exact ⟨c, k, h, hk, hn, hs, hv⟩

/-- The slice that a current reference stands for. -/
theorem RepV.ref_now {h : List Blk} (rh : RepH α S h w) {a : Value} {id n esz : Nat} {ty : TypeId} {xs : List D} (hx : RepV α S w a (.ref id n)) (hb : h[id]? = some (.slice esz ty xs)) (hn : xs.length = n) :
    α[id]? = some a ∧ ((a = .slice none 0 0 ∧ xs = []) ∨
      ∃ b off cap vs fr, a = .slice (some ⟨b, off, none⟩) xs.length cap ∧ w.heap[b]? = some (.cells vs ty fr) ∧ (∀ o, o < vs.size → ¬ (fr.1 ≤ o ∧ o < fr.2)) ∧ off + cap * esz ≤ vs.size ∧
        xs.length ≤ cap ∧ (∀ x ∈ xs, x.cells.length = esz ∧ x.good = true) ∧
        ∀ (i : Nat) (x : D) (j : Nat) (c : D), xs[i]? = some x → x.cells[j]? = some c → ∃ v, vs[off + i * esz + j]? = some v ∧ RepV α S w v c) := by
  obtain ⟨c, k, h1, h2, h3, h4, h5⟩ := hx.ref_form
  have hr := rh.rep id _ c hb h1
  have hk : n = k := by
    rcases hr with ⟨rfl, rfl⟩ | ⟨b, off, cap, vs, fr, rfl, _⟩
    · cases h2; simp at hn; omega
    · cases h2; exact hn.symm
  have := h5 hk
  subst this
  exact ⟨h1, hr⟩

theorem arr_addr {t : TypeId} {len : Nat} {ti : TI} (hf : arrOf P t = some (len, ti)) {ad : Addr} {k : IntKind} {n : Int} (h0 : 0 ≤ n) (h1 : n < len) :
    (Instr.indexAt t (.pointer (some ad)) (.int k n)).run P w = .ok (.pointer (some (ad.add (n.toNat * ti.size)))) w := by
  obtain ⟨e, e1, e2⟩ := arrOf_spec hf
  simp only [Instr.indexAt, asIntOf, Sem.run_bind, Sem.run_pure, Result.andThen_ok, run_underlying e1, Instr.sureAddr, Sem.run_ite, h0, h1, and_self, if_true, run_sizeOf' e2]

theorem indexAddrD_sound {t : TypeId} {x i d : D} {h : List Blk} {a ia : Value} (hd : indexAddrD P t x i h = some d) (hx : RepV α S w a x) (hi : RepV α S w ia i) (rh : RepH α S h w) :
    ∃ v, (Instr.indexAt t a ia).run P w = .ok v w ∧ RepV α S w v d := by
  unfold indexAddrD at hd
  split at hd
  · rename_i k n
    cases hi
    split at hd
    · rename_i xs
      split at hd
      · rename_i e ti he
        split at hd
        · rename_i hb
          split at hd
          · rename_i y hy
            split at hd
            · rename_i hsz
              cases hd
              obtain ⟨u1, u2⟩ := eltOf_spec he
              rcases hx.list_form with ⟨rfl, rfl⟩ | ⟨b, off, cap, esz, rfl, hcap, hS, hes, cv, hc, hr⟩
              · simp at hb; omega
              · have hez : esz = ti.size := by rw [← hsz]; exact ((hes y (List.mem_of_getElem? hy)).1).symm
                refine ⟨_, ?_, RepV.elem_pd hS hes hc hr hy⟩
                simp only [Instr.indexAt, asIntOf, Sem.run_bind, Sem.run_pure, Result.andThen_ok, run_underlying u1, Sem.run_ite, hb.1, hb.2, and_self, if_true, run_sizeOf' u2, Addr.add_none, hez]
            · cases hd
          · cases hd
        · cases hd
      · cases hd
    · rename_i id m
      split at hd
      · rename_i e ti he
        split at hd
        · rename_i esz ty xs hblk
          split at hd
          · rename_i hsm
            split at hd
            · rename_i hb
              cases hd
              obtain ⟨u1, u2⟩ := eltOf_spec he
              obtain ⟨hα, hform⟩ := hx.ref_now rh hblk hsm.2
              rcases hform with ⟨rfl, rfl⟩ | ⟨b, off, cap, vs, fr, rfl, h1, h2, h3, h4, h5, h6⟩
              · simp at hb; omega
              · refine ⟨.pointer (some ⟨b, off + n.toNat * esz, none⟩), ?_, .eptr id m xs.length esz n.toNat 0 _ _ hα rfl (by omega) ⟨_, rfl⟩ fun _ => ⟨b, off, cap, by rw [hsm.2], rfl⟩⟩
                simp only [Instr.indexAt, asIntOf, Sem.run_bind, Sem.run_pure, Result.andThen_ok, run_underlying u1, Sem.run_ite, hb.1, hb.2, and_self, if_true, run_sizeOf' u2, Addr.add_none, hsm.1]
            · cases hd
          · cases hd
        · cases hd
      · cases hd
    · split at hd
      · rename_i len ti hf
        split at hd
        · rename_i hb
          obtain ⟨ad, rfl, hr⟩ := moved_sound hx hd
          exact ⟨_, arr_addr hf hb.1 hb.2, hr⟩
        · cases hd
      · cases hd
  · cases hd

def indexD (P : Program) (t : TypeId) (x i : D) : Option D :=
  match i with
  | .int _ n =>
    match x with
    | .str s => if isStrT P t = true ∧ 0 ≤ n ∧ n < s.length then some (.int .u8 (s.getD n.toNat 0).toNat) else none
    | .agg cs => match arrOf P t with
      | some (len, ti) => if 0 ≤ n ∧ n < len then partD ti (n.toNat * ti.size) cs else none
      | none => none
    | _ => none
  | _ => none

theorem isStrT_spec {t : TypeId} (h : isStrT P t = true) : P.underlying t = some .string := by
  unfold isStrT at h
  split at h
  · assumption
  · cases h

theorem indexD_sound {t : TypeId} {x i d : D} {a ia : Value} (hd : indexD P t x i = some d) (hx : RepV α S w a x) (hi : RepV α S w ia i) :
    ∃ v, (Instr.index t a ia).run P w = .ok v w ∧ RepV α S w v d := by
  unfold indexD at hd
  split at hd
  · rename_i k n
    cases hi
    split at hd
    · rename_i s
      split at hd
      · rename_i hb
        cases hd
        cases hx
        obtain ⟨h0, h1, h2⟩ := hb
        have hlt : n.toNat < s.length := by omega
        refine ⟨.int .u8 (s.getD n.toNat 0).toNat, ?_, .int _ _⟩
        have hg : (⟨s.toArray⟩ : ByteArray)[n.toNat]? = some (s.getD n.toNat 0) := by
          rw [ByteArray.getElem?_lt' _ _ (by simpa [ByteArray.size] using hlt)]
          congr 1
          show s.toArray[n.toNat] = _
          simp [List.getD, hlt]
        simp only [Instr.index, asIntOf, Sem.run_bind, Sem.run_pure, Result.andThen_ok, run_underlying (isStrT_spec h0), h1, if_true, hg]
      · cases hd
    · rename_i cs
      split at hd
      · rename_i len ti hf
        split at hd
        · rename_i hb
          obtain ⟨e, e1, e2⟩ := arrOf_spec hf
          cases a with
          | agg vs =>
            obtain ⟨v, hv, hr⟩ := part_sound e2 hd (RepC.of_agg hx)
            exact ⟨v, by simp only [Instr.index, asIntOf, Sem.run_bind, Sem.run_pure, Result.andThen_ok, run_underlying e1, Sem.run_ite, hb.1, hb.2, and_self, if_true, run_sizeOf' e2]; exact hv, hr⟩
          | _ => cases hx
        · cases hd
      · cases hd
    · cases hd
  · cases hd

def extractD (x : D) (i : Nat) : Option D :=
  match x with
  | .tup vs => vs[i]?
  | _ => none

theorem extractD_sound {x d : D} {i : Nat} {a : Value} (h : extractD x i = some d) (hx : RepV α S w a x) : ∃ v, (Instr.extract a i).run P w = .ok v w ∧ RepV α S w v d := by
  unfold extractD at h
  split at h
  · rename_i ds
    cases hx with
    | tup vs _ hs hr =>
      have hi : i < vs.size := by rw [hs]; exact (List.getElem?_eq_some_iff.1 h).1
      exact ⟨vs[i], by simp [Instr.extract, hi], hr i _ d (Array.getElem?_eq_getElem hi) h⟩
    | _ => trivial
  · cases h

def loadD (P : Program) (t : TypeId) (x : D) (h : List Blk) : Option D :=
  match tiOf P t with
  | none => none
  | some i => match x with
    | .pd cs => partD i 0 cs
    | .ptr id off => match h[id]? with
      | some (.box cs) => partD i 0 (cs.drop off)
      | _ => none
    | .eptr id n esz k off => match h[id]? with
      | some (.slice esz' _ xs) => if esz' = esz ∧ xs.length = n then (match xs[k]? with
        | some y => partD i 0 (y.cells.drop off)
        | none => none) else none
      | _ => none
    | _ => none

theorem cell_of_heap {b o : Nat} {vs : Array Value} {ty : TypeId} {fr : Nat × Nat} (h : w.heap[b]? = some (.cells vs ty fr)) : w.cell? ⟨b, o, none⟩ = vs[o]? := by
  simp [World.cell?, h]

theorem RepB.box_cells {cs : List D} {b : Nat} (h : RepB α S w (.pointer (some ⟨b, 0, none⟩)) (.box cs)) : ∃ ty vs, w.heap[b]? = some (.cells vs ty (0, 0)) ∧ RepC α S w vs.toList cs := by
  obtain ⟨b', ty, vs, e, h1, h2, h3, h4⟩ := h
  cases e
  exact ⟨ty, vs, h1, by simpa using h2, h3, fun i v c e1 e2 => h4 i v c (by simpa using e1) e2⟩

theorem loadD_sound {t : TypeId} {x d : D} {h : List Blk} {a : Value} (hd : loadD P t x h = some d) (hx : RepV α S w a x) (rh : RepH α S h w) :
    ∃ v, (Instr.loadAt t a).run P w = .ok v w ∧ RepV α S w v d := by
  unfold loadD at hd
  split at hd
  · cases hd
  · rename_i i hi
    split at hd
    · rename_i cs
      cases hx with
      | pd b off _ cv hS hl hc hr =>
        have := run_loadVar (P := P) (w := w) hi (b := b) (off := off) (vs := (List.range cs.length).map cv) hd ⟨by simp, hl, fun j v c e1 e2 => by
          have hj : j < cs.length := (List.getElem?_eq_some_iff.1 e2).1
          simp [hj] at e1
          subst e1
          exact hr j c e2⟩ (fun j v e => by
            have hj : j < cs.length := by have := (List.getElem?_eq_some_iff.1 e).1; simpa using this
            simp [hj] at e
            subst e
            exact hc j _ (List.getElem?_eq_getElem hj))
        obtain ⟨v, hv, hr'⟩ := this
        exact ⟨v, by simp only [Instr.loadAt, Instr.sureAddr, Sem.run_bind, Sem.run_pure, Result.andThen_ok]; exact hv, hr'⟩
    · rename_i id off
      split at hd
      · rename_i cs hb
        cases hx with
        | ptr _ _ b hα =>
          obtain ⟨ty, vs, h1, h2⟩ := (rh.rep id _ _ hb hα).box_cells
          obtain ⟨v, hv, hr'⟩ := run_loadVar (P := P) (w := w) hi (b := b) (off := off) hd (h2.drop off) (fun j v e => by
            rw [cell_of_heap h1]
            rw [List.getElem?_drop] at e
            simpa using e)
          exact ⟨v, by simp only [Instr.loadAt, Instr.sureAddr, Sem.run_bind, Sem.run_pure, Result.andThen_ok]; exact hv, hr'⟩
      · cases hd
    · rename_i id n esz k off
      split at hd
      · rename_i esz' ty xs hb
        split at hd
        · rename_i hsm
          split at hd
          · rename_i y hy
            cases hx with
            | eptr _ _ kk _ _ _ _ c hα hk hn hp hv =>
              have hr := rh.rep id _ c hb hα
              have hkk : n = kk := by
                rcases hr with ⟨rfl, rfl⟩ | ⟨b, o, cap, vs, fr, rfl, _⟩
                · simp at hy
                · cases hk; exact hsm.2.symm
              obtain ⟨b, o, cap, e1, e2⟩ := hv hkk
              subst e1 e2
              rcases hr with ⟨e, _⟩ | ⟨b', o', cap', vs, fr, e, h1, h2, h3, h4, h5, h6⟩
              · cases e
              · cases e
                rw [hsm.1] at h6 h5
                have h6' : ∀ j c, y.cells[j]? = some c → ∃ v, vs[o + k * esz + j]? = some v ∧ RepV α S w v c := fun j c e => h6 k y j c hy e
                have hlen : y.cells.length = esz := (h5 y (List.mem_of_getElem? hy)).1
                have hslot : o + k * esz + esz ≤ vs.size := by
                  have hkl : k < xs.length := (List.getElem?_eq_some_iff.1 hy).1
                  have : (k + 1) * esz ≤ cap * esz := Nat.mul_le_mul_right _ (by omega)
                  rw [hsm.1] at h3
                  rw [Nat.add_mul] at this
                  omega
                have hRC : RepC α S w ((vs.toList.drop (o + k * esz)).take esz) y.cells := by
                  refine ⟨by simp [hlen]; omega, fun c hc => D.leaf_of_good (h5 y (List.mem_of_getElem? hy)).2 hc, fun j v c e1 e2 => ?_⟩
                  obtain ⟨v', f1, f2⟩ := h6' j c e2
                  rw [List.getElem?_take] at e1
                  split at e1
                  · rw [List.getElem?_drop] at e1
                    have : vs[o + k * esz + j]? = some v := by simpa using e1
                    rw [f1] at this
                    cases this
                    exact f2
                  · cases e1
                obtain ⟨v, hv', hr'⟩ := run_loadVar (P := P) (w := w) hi (b := b) (off := o + k * esz + off) hd (hRC.drop off) (fun j v e => by
                  rw [cell_of_heap h1]
                  rw [List.getElem?_drop, List.getElem?_take] at e
                  split at e
                  · rw [List.getElem?_drop] at e
                    have : vs[o + k * esz + (off + j)]? = some v := by simpa using e
                    rw [← this]
                    congr 1
                    omega
                  · cases e)
                exact ⟨v, by simp only [Instr.loadAt, Instr.sureAddr, Sem.run_bind, Sem.run_pure, Result.andThen_ok]; exact hv', hr'⟩
          · cases hd
        · cases hd
      · cases hd
    · cases hd

end
end Go.Ab
