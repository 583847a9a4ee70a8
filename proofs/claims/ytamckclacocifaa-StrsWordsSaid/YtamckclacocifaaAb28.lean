/- The rules of a proof over the small code: loops, cuts, less said, calls, results, numbers that fit. -/
import Derived.Test.YtamckclacocifaaAb27
import Derived.Below
namespace Go.Ab

theorem Weak.refl {n0 : Nat} (t : Tm) (h : List Blk) : Weak n0 t h t h := fun _ _ _ _ _ r => r
theorem Weak.trans {n0 : Nat} {t t' t'' : Tm} {h h' h'' : List Blk} (a : Weak n0 t h t' h') (b : Weak n0 t' h' t'' h'') : Weak n0 t h t'' h'' := fun B N x w hB r => b B N x w hB (a B N x w hB r)

/-- All of these slots hold what is said. -/
def AllGet (t : Tm) : List (Nat × D) → Prop
  | [] => True
  | (k, d) :: l => t k = some d ∧ AllGet t l

theorem AllGet.tm {t : Tm} : ∀ {l : List (Nat × D)}, AllGet t l → ∀ i d, Ab.tm l i = some d → t i = some d
  | [], _, i, d, h => by cases h
  | (k, x) :: l, ha, i, d, h => by
    simp only [Ab.tm] at h
    split at h
    · rename_i hi; cases h; subst hi; exact ha.1
    · exact AllGet.tm ha.2 i d h

theorem Weak.le {n0 : Nat} {t t' : Tm} {h : List Blk} (hl : ∀ i d, t' i = some d → t i = some d) : Weak n0 t h t' h := by
  rintro B N a w _ ⟨α, S, r⟩
  exact ⟨α, S, r.mem, fun i d e => r.tmp i d (hl i d e), r.size, r.defers⟩

theorem Weak.all {n0 : Nat} {t : Tm} {h : List Blk} {l : List (Nat × D)} (ha : AllGet t l) : Weak n0 t h (tm l) h := Weak.le ha.tm

inductive BdB (n : Nat) : Blk → Prop where
  | dead : BdB n .dead
  | box (cs : List D) (h : ∀ c ∈ cs, Bd n c) : BdB n (.box cs)
  | slice (esz : Nat) (ty : TypeId) (xs : List D) (h : ∀ x ∈ xs, Bd n x) : BdB n (.slice esz ty xs)
  | iter (s : List UInt8) (pos : Nat) : BdB n (.iter s pos)

@[simp] theorem Bd.int_ (n : Nat) (k : IntKind) (m : Int) : Bd n (.int k m) := .int k m
@[simp] theorem Bd.bool_ (n : Nat) (b : Bool) : Bd n (.bool b) := .bool b
@[simp] theorem Bd.str_ (n : Nat) (s : List UInt8) : Bd n (.str s) := .str s
@[simp] theorem Bd.nils_ (n : Nat) : Bd n .nils := .nils
@[simp] theorem Bd.nilf_ (n : Nat) : Bd n .nilf := .nilf
@[simp] theorem Bd.nilp_ (n : Nat) : Bd n .nilp := .nilp
@[simp] theorem Bd.nilm_ (n : Nat) : Bd n .nilm := .nilm
@[simp] theorem Bd.undef_ (n : Nat) : Bd n .undef := .undef
@[simp] theorem Bd.encB_ (n : Nat) (b : UInt8) : Bd n (encB b) := .int _ _
@[simp] theorem Bd.agg_iff {n : Nat} {cs : List D} : Bd n (.agg cs) ↔ ∀ c ∈ cs, Bd n c := ⟨fun h => (by cases h with | agg _ h => exact h), .agg cs⟩
@[simp] theorem Bd.tup_iff {n : Nat} {cs : List D} : Bd n (.tup cs) ↔ ∀ c ∈ cs, Bd n c := ⟨fun h => (by cases h with | tup _ h => exact h), .tup cs⟩
@[simp] theorem Bd.list_iff {n : Nat} {cs : List D} : Bd n (.list cs) ↔ ∀ c ∈ cs, Bd n c := ⟨fun h => (by cases h with | list _ h => exact h), .list cs⟩
@[simp] theorem Bd.ref_iff {n id m : Nat} : Bd n (.ref id m) ↔ id < n := ⟨fun h => (by cases h with | ref _ _ h => exact h), .ref id m⟩
@[simp] theorem Bd.ptr_iff {n id m : Nat} : Bd n (.ptr id m) ↔ id < n := ⟨fun h => (by cases h with | ptr _ _ h => exact h), .ptr id m⟩
@[simp] theorem Bd.hnd_iff {n id : Nat} : Bd n (.hnd id) ↔ id < n := ⟨fun h => (by cases h with | hnd _ h => exact h), .hnd id⟩
@[simp] theorem BdB.dead_ (n : Nat) : BdB n .dead := .dead
@[simp] theorem BdB.iter_ (n : Nat) (s : List UInt8) (p : Nat) : BdB n (.iter s p) := .iter s p
@[simp] theorem BdB.box_iff {n : Nat} {cs : List D} : BdB n (.box cs) ↔ ∀ c ∈ cs, Bd n c := ⟨fun h => (by cases h with | box _ h => exact h), .box cs⟩
@[simp] theorem BdB.slice_iff {n e : Nat} {ty : TypeId} {xs : List D} : BdB n (.slice e ty xs) ↔ ∀ c ∈ xs, Bd n c := ⟨fun h => (by cases h with | slice _ _ _ h => exact h), .slice e ty xs⟩

theorem Bd.encs (n : Nat) (l : List UInt8) : ∀ c ∈ l.map encB, Bd n c := by
  intro c hc
  obtain ⟨b, _, rfl⟩ := List.mem_map.1 hc
  exact .int _ _
theorem BdB.encs (n e : Nat) (ty : TypeId) (l : List UInt8) : ∀ b ∈ [Blk.slice e ty (l.map encB)], BdB n b := by
  intro b hb
  cases List.mem_singleton.1 hb
  exact .slice _ _ _ (Bd.encs n l)

theorem RepB.agree {α β : List Value} {S : Nat → Prop} {w : World} {n : Nat} (hab : ∀ id, id < n → β[id]? = α[id]?) {a : Value} {k : Blk} (h : RepB α S w a k) (hb : BdB n k) : RepB β S w a k := by
  cases hb with
  | dead => trivial
  | box cs hc =>
    obtain ⟨b, ty, vs, rfl, h1, h2, h3, h4⟩ := h
    exact ⟨b, ty, vs, rfl, h1, h2, h3, fun i v c e1 e2 => (h4 i v c e1 e2).agree hab (hc c (List.mem_of_getElem? e2))⟩
  | slice esz ty xs hx =>
    rcases h with h | ⟨b, off, cap, vs, fr, rfl, h1, h2, h3, h4, h5, h6⟩
    · exact .inl h
    · exact .inr ⟨b, off, cap, vs, fr, rfl, h1, h2, h3, h4, h5, fun i x j c e1 e2 => let ⟨v, g1, g2⟩ := h6 i x j c e1 e2; ⟨v, g1, g2.agree hab ((hx x (List.mem_of_getElem? e1)).cells (List.mem_of_getElem? e2))⟩⟩
  | iter s pos => exact h

theorem Weak.of {n0 : Nat} {t : Tm} {h h' : List Blk} {l : List (Nat × D)} (ha : AllGet t l) (hh : h = h') : Weak n0 t h (tm l) h' := by subst hh; exact Weak.all ha

/-- Slots and blocks that are no longer wanted are forgotten. -/
theorem Weak.cut {n0 : Nat} {t : Tm} {h' g : List Blk} {l : List (Nat × D)} (ha : AllGet t l) (hn : n0 ≤ h'.length) (hd : ∀ p ∈ l, Bd h'.length p.2) (hb : ∀ b ∈ h', BdB h'.length b) : Weak n0 t (h' ++ g) (tm l) h' := by
  rintro B N a w hB ⟨α, S, r⟩
  have hlen : α.length = h'.length + g.length := by rw [r.mem.rep.len]; simp
  have hab : ∀ id, id < h'.length → (α.take h'.length)[id]? = α[id]? := fun id hid => by rw [List.getElem?_take, if_pos hid]
  have hget : ∀ {id : Nat} {k : Blk}, h'[id]? = some k → (h' ++ g)[id]? = some k := fun {id k} e => by
    rw [List.getElem?_append_left (List.getElem?_eq_some_iff.1 e).1]; exact e
  have hα : ∀ {id : Nat} {x : Value}, (α.take h'.length)[id]? = some x → α[id]? = some x := fun {id x} e => by
    rw [List.getElem?_take] at e
    split at e
    · exact e
    · cases e
  have hown : ∀ b, Own (α.take h'.length) h' b → Own α (h' ++ g) b := fun b ⟨id, x, k, e1, e2, e3, e4⟩ => ⟨id, x, k, hget e1, e2, hα e3, e4⟩
  have htm : ∀ i d, tm l i = some d → Bd h'.length d := by
    clear ha
    induction l with
    | nil => intro i d e; cases e
    | cons p l ih =>
      intro i d e
      obtain ⟨k, x⟩ := p
      simp only [tm] at e
      split at e
      · injection e with e
        have := hd (k, x) (by simp)
        rw [e] at this
        exact this
      · exact ih (fun q hq => hd q (by simp [hq])) i d e
  refine ⟨α.take h'.length, S, ⟨⟨by rw [List.length_take]; omega, fun id k x e1 e2 => ?_, fun i j x c k k' b e1 e2 e3 e4 e5 e6 e7 e8 => r.mem.rep.inj i j x c k k' b (hget e1) e2 (hα e3) e4 (hget e5) e6 (hα e7) e8, fun b hb => r.mem.rep.sep b (hown b hb), r.mem.rep.lt⟩,
    ⟨r.mem.tr.os, r.mem.tr.tape, r.mem.tr.output, r.mem.tr.size, r.mem.tr.frame, fun b hb => r.mem.tr.own b (hown b hb), r.mem.tr.s0, r.mem.tr.s1, fun id x e => ?_⟩⟩, fun i d e => ?_, r.size, r.defers⟩
  · exact (r.mem.rep.rep id k x (hget e1) (hα e2)).agree hab (hb k (List.mem_of_getElem? e1))
  · have hid : id < h'.length := Nat.lt_of_lt_of_le (List.getElem?_eq_some_iff.1 e).1 (Nat.le_trans hB hn)
    obtain ⟨x', e1, e2⟩ := r.mem.tr.adv id x e
    exact ⟨x', by rw [hab id hid]; exact e1, e2⟩
  · obtain ⟨v, hv, hr⟩ := r.tmp i d (ha.tm i d e)
    exact ⟨v, hv, hr.agree hab (htm i d e)⟩

theorem Weak.cut' {n0 : Nat} {t : Tm} {h h' g : List Blk} {l : List (Nat × D)} (ha : AllGet t l) (hh : h = h' ++ g) (hn : n0 ≤ h'.length) (hd : ∀ p ∈ l, Bd h'.length p.2) (hb : ∀ b ∈ h', BdB h'.length b) : Weak n0 t h (tm l) h' := by
  subst hh; exact Weak.cut ha hn hd hb

theorem tm_cons {k : Nat} {x : D} {l : List (Nat × D)} {i : Nat} {d : D} (h : tm ((k, x) :: l) i = some d) : (i = k ∧ d = x) ∨ (i ≠ k ∧ tm l i = some d) := by
  simp only [tm] at h
  split at h
  · rename_i hi; injection h with h; exact .inl ⟨hi, h.symm⟩
  · rename_i hi; exact .inr ⟨hi, h⟩

theorem tm_head (k : Nat) (x : D) (l : List (Nat × D)) : tm ((k, x) :: l) k = some x := by simp [tm]
theorem tm_tail {k : Nat} {x : D} {l : List (Nat × D)} {i : Nat} (h : i ≠ k) : tm ((k, x) :: l) i = tm l i := by simp [tm, h]

/-- A nil slice is a block of ours, with nothing in it. -/
theorem Weak.newNil {n0 : Nat} (esz : Nat) (ty : TypeId) (k : Nat) (l : List (Nat × D)) (h : List Blk) : Weak n0 (tm ((k, .nils) :: l)) h (tm ((k, .ref h.length 0) :: l)) (h ++ [.slice esz ty []]) := by
  rintro B N a w hB ⟨α, S, r⟩
  obtain ⟨m', nx⟩ := r.mem.alloc (w' := w) (.slice none 0 0) (.slice esz ty []) (Nat.le_refl _) (fun _ _ => rfl) rfl rfl rfl (by simp [vblock]) (.inl ⟨rfl, rfl⟩)
  refine ⟨α ++ [.slice none 0 0], S, m', fun i d e => ?_, r.size, r.defers⟩
  rcases tm_cons e with ⟨rfl, rfl⟩ | ⟨hi, e⟩
  · obtain ⟨v, hv, hr⟩ := r.tmp i _ (tm_head i _ l)
    refine ⟨v, hv, ?_⟩
    cases hr
    exact .ref _ 0 0 _ (.slice none 0 0) (by rw [← r.mem.rep.len]; simp) rfl (Nat.le_refl _) rfl fun _ => rfl
  · obtain ⟨v, hv, hr⟩ := r.tmp i d (by rw [tm_tail hi]; exact e)
    exact ⟨v, hv, nx.rep hr⟩

theorem Weak.nilList {n0 : Nat} (k : Nat) (l : List (Nat × D)) (h : List Blk) : Weak n0 (tm ((k, .nils) :: l)) h (tm ((k, .list []) :: l)) h := by
  rintro B N a w hB ⟨α, S, r⟩
  refine ⟨α, S, r.mem, fun i d e => ?_, r.size, r.defers⟩
  rcases tm_cons e with ⟨rfl, rfl⟩ | ⟨hi, e⟩
  · obtain ⟨v, hv, hr⟩ := r.tmp i _ (tm_head i _ l)
    refine ⟨v, hv, ?_⟩
    cases hr
    exact .nil
  · exact r.tmp i d (by rw [tm_tail hi]; exact e)

/-- A block of ours that will not be written any more. -/
theorem Weak.sealed {n0 : Nat} {esz : Nat} {ty : TypeId} {k id n : Nat} {xs : List D} {l : List (Nat × D)} {h : List Blk} (hb : h[id]? = some (.slice esz ty xs)) (hn : xs.length = n) :
    Weak n0 (tm ((k, .ref id n) :: l)) h (tm ((k, .list xs) :: l)) (h.set id .dead) := by
  rintro B N a w hB ⟨α, S, r⟩
  obtain ⟨v, hv, hr⟩ := r.tmp k _ (tm_head k _ l)
  obtain ⟨S', m', nx, hr'⟩ := seal_sound r.mem hr hb hn
  refine ⟨α, S', m', fun i d e => ?_, r.size, r.defers⟩
  rcases tm_cons e with ⟨rfl, rfl⟩ | ⟨hi, e⟩
  · exact ⟨v, hv, hr'⟩
  · obtain ⟨v, hv, hr⟩ := r.tmp i d (by rw [tm_tail hi]; exact e)
    exact ⟨v, hv, nx.rep hr⟩

section
variable {P : Program} {n0 : Nat}

/-- One thing after another, with less said in between: any of these states. -/
theorem iw_seq {σ : Type} {a b : IC} {Q : X → Tm → List Blk → Prop} {t : Tm} {h : List Blk} (inv : σ → Prop) (st : σ → List (Nat × D)) (hp : σ → List Blk)
    (hb : ∀ s, inv s → iw P n0 b Q (tm (st s)) (hp s)) (ha : ∀ K : Tm → List Blk → Prop, (∀ s, inv s → ∀ t1 h1, Weak n0 t1 h1 (tm (st s)) (hp s) → K t1 h1) → iw P n0 a (thn K Q) t h) : iw P n0 (.seq a b) Q t h :=
  ha _ fun s hi _ _ hw => ⟨tm (st s), hp s, hw, hb s hi⟩

/-- One state alone. -/
theorem iw_seq1 {a b : IC} {Q : X → Tm → List Blk → Prop} {t : Tm} {h : List Blk} (inv : Prop) (l : List (Nat × D)) (h2 : List Blk)
    (hb : inv → iw P n0 b Q (tm l) h2) (ha : ∀ K : Tm → List Blk → Prop, (inv → ∀ t1 h1, Weak n0 t1 h1 (tm l) h2 → K t1 h1) → iw P n0 a (thn K Q) t h) : iw P n0 (.seq a b) Q t h :=
  ha _ fun hi _ _ hw => ⟨tm l, h2, hw, hb hi⟩

theorem sq_keep {b : IC} {Q : X → Tm → List Blk → Prop} {t : Tm} {h : List Blk} (hb : iw P n0 b Q t h) : ∃ t2 h2, Weak n0 t h t2 h2 ∧ iw P n0 b Q t2 h2 := ⟨t, h, Weak.refl _ _, hb⟩

/-- Rounds: st and hp say what holds at each round's head, m counts what is left. -/
theorem iw_loop {σ : Type} {b : IC} {Q : X → Tm → List Blk → Prop} {t : Tm} {h : List Blk} (inv : σ → Prop) (m : σ → Nat) (st : σ → List (Nat × D)) (hp : σ → List Blk) (s0 : σ)
    (h0 : inv s0) (hw : Weak n0 t h (tm (st s0)) (hp s0))
    (step : ∀ s, inv s → ∀ K : Tm → List Blk → Prop, (∀ s', m s' < m s → inv s' → ∀ t1 h1, Weak n0 t1 h1 (tm (st s')) (hp s') → K t1 h1) → iw P n0 b (thn K Q) (tm (st s)) (hp s)) : ∃ n t' h', Weak n0 t h t' h' ∧ lp n0 (fun K => iw P n0 b (thn K Q)) n t' h' := by
  refine ⟨m s0 + 1, tm (st s0), hp s0, hw, ?_⟩
  have main : ∀ (n : Nat) (s : σ), inv s → m s < n → lp n0 (fun K => iw P n0 b (thn K Q)) n (tm (st s)) (hp s) := by
    intro n
    induction n with
    | zero => intro s _ hs; omega
    | succ n ih =>
      intro s hi hs
      exact step s hi _ fun s' hm hi' t1 h1 hw' => ⟨tm (st s'), hp s', hw', ih s' hi' (by omega)⟩
  exact main _ s0 h0 (Nat.lt_succ_self _)

end

/-- A call by a contract over data alone. -/
theorem spec_p {P : Program} {f : FuncId} {ds : List D} {r : D} {h : List Blk} {Q : D → List Blk → Prop} (hp : PSpec P f ds r) (hd : ∀ d ∈ ds, Bd 0 d) (hr : Bd 0 r) (hq : Q r h) : Spec P f ds h Q :=
  (hp.lift hd hr h).mono fun _ _ ⟨e1, e2⟩ => by rw [e1, e2]; exact hq

section
variable {A B : Prop}
theorem Br.yes (h : A) : Br true A B := ⟨fun _ => h, fun e => Bool.noConfusion e⟩
theorem Br.no (h : B) : Br false A B := ⟨fun e => Bool.noConfusion e, fun _ => h⟩
theorem Br.dec {p : Prop} [Decidable p] (h1 : p → A) (h2 : ¬ p → B) : Br (decide p) A B := ⟨fun e => h1 (of_decide_eq_true e), fun e => h2 (of_decide_eq_false e)⟩
theorem Br.decT {p : Prop} [Decidable p] (hp : p) (h1 : A) : Br (decide p) A B := Br.dec (fun _ => h1) (fun h => absurd hp h)
theorem Br.decF {p : Prop} [Decidable p] (hp : ¬ p) (h1 : B) : Br (decide p) A B := Br.dec (fun h => absurd h hp) (fun _ => h1)
theorem Br.eqT {a b : Int} (h : a = b) (h1 : A) : Br (a == b) A B := ⟨fun _ => h1, fun e => absurd h (by simpa using e)⟩
theorem Br.eqF {a b : Int} (h : a ≠ b) (h1 : B) : Br (a == b) A B := ⟨fun e => absurd (by simpa using e) h, fun _ => h1⟩
theorem Br.neT {a b : Int} (h : a ≠ b) (h1 : A) : Br (a != b) A B := ⟨fun _ => h1, fun e => absurd (by simpa using e) h⟩
theorem Br.neF {a b : Int} (h : a = b) (h1 : B) : Br (a != b) A B := ⟨fun e => absurd h (by simpa using e), fun _ => h1⟩
theorem Br.sT {a b : List UInt8} (h : a = b) (h1 : A) : Br (a == b) A B := ⟨fun _ => h1, fun e => absurd h (by simpa using e)⟩
theorem Br.sF {a b : List UInt8} (h : a ≠ b) (h1 : B) : Br (a == b) A B := ⟨fun e => absurd (by simpa using e) h, fun _ => h1⟩
theorem Br.snT {a b : List UInt8} (h : a ≠ b) (h1 : A) : Br (!(a == b)) A B := ⟨fun _ => h1, fun e => absurd (by simpa using e) h⟩
theorem Br.snF {a b : List UInt8} (h : a = b) (h1 : B) : Br (!(a == b)) A B := ⟨fun e => absurd h (by simpa using e), fun _ => h1⟩
theorem Br.anyT {b : Bool} (h : b = true) (h1 : A) : Br b A B := ⟨fun _ => h1, fun e => by rw [h] at e; cases e⟩
theorem Br.anyF {b : Bool} (h : b = false) (h1 : B) : Br b A B := ⟨fun e => (by rw [h] at e; cases e), fun _ => h1⟩
theorem Br.eqI {a b : Int} (h1 : a = b → A) (h2 : a ≠ b → B) : Br (a == b) A B := ⟨fun e => h1 (by simpa using e), fun e => h2 (by simpa using e)⟩
theorem Br.neI {a b : Int} (h1 : a ≠ b → A) (h2 : a = b → B) : Br (a != b) A B := ⟨fun e => h1 (by simpa using e), fun e => h2 (by simpa using e)⟩
theorem Br.eqS {a b : List UInt8} (h1 : a = b → A) (h2 : a ≠ b → B) : Br (a == b) A B := ⟨fun e => h1 (by simpa using e), fun e => h2 (by simpa using e)⟩
theorem Br.neS {a b : List UInt8} (h1 : a ≠ b → A) (h2 : a = b → B) : Br (!(a == b)) A B := ⟨fun e => h1 (by simpa using e), fun e => h2 (by simpa using e)⟩
theorem Br.not {b : Bool} (h : Br b B A) : Br (!b) A B := ⟨fun e => h.f (by simpa using e), fun e => h.t (by simpa using e)⟩
theorem Br.any {b : Bool} (h1 : b = true → A) (h2 : b = false → B) : Br b A B := ⟨h1, h2⟩
end

theorem Ex1.same {β : Type} {e : β} {K : β → Prop} (h : K e) : Ex1 e K := ⟨e, rfl, h⟩
theorem Ex1.by {β : Type} {e : β} {K : β → Prop} (c : β) (hc : c = e) (h : K c) : Ex1 e K := ⟨c, hc, h⟩
theorem Ex1.i64 {n : Int} {K : Int → Prop} (h1 : -9223372036854775808 ≤ n) (h2 : n ≤ 9223372036854775807) (h : K n) : Ex1 (IntKind.i64.wrap n) K := ⟨n, by rw [IntKind.wrap_i64]; omega, h⟩
theorem Ex1.u8 {n : Int} {K : Int → Prop} (h1 : 0 ≤ n) (h2 : n ≤ 255) (h : K n) : Ex1 (IntKind.u8.wrap n) K := ⟨n, by rw [IntKind.wrap_u8]; omega, h⟩
theorem Ex1.i32 {n : Int} {K : Int → Prop} (h1 : -2147483648 ≤ n) (h2 : n ≤ 2147483647) (h : K n) : Ex1 (IntKind.i32.wrap n) K := ⟨n, by rw [IntKind.wrap_i32]; omega, h⟩
theorem Ex1.u64 {n : Int} {K : Int → Prop} (h1 : 0 ≤ n) (h2 : n ≤ 18446744073709551615) (h : K n) : Ex1 (IntKind.u64.wrap n) K := ⟨n, by rw [IntKind.wrap_u64]; omega, h⟩
theorem Ex1.u32 {n : Int} {K : Int → Prop} (h1 : 0 ≤ n) (h2 : n ≤ 4294967295) (h : K n) : Ex1 (IntKind.u32.wrap n) K := ⟨n, by rw [IntKind.wrap_u32]; omega, h⟩
theorem Ex1.u16 {n : Int} {K : Int → Prop} (h1 : 0 ≤ n) (h2 : n ≤ 65535) (h : K n) : Ex1 (IntKind.u16.wrap n) K := ⟨n, by rw [IntKind.wrap_u16]; omega, h⟩
theorem Ex1.b64 {b : UInt8} {K : Int → Prop} (h : K b.toNat) : Ex1 (IntKind.i64.wrap (b.toNat : Int)) K := ⟨b.toNat, by have := b.toNat_lt; rw [IntKind.wrap_i64]; omega, h⟩
theorem Ex1.b64add {b : UInt8} {d : Int} {K : Int → Prop} (h1 : -9223372036854775000 ≤ d) (h2 : d ≤ 9223372036854775000) (h : K (b.toNat + d)) : Ex1 (IntKind.i64.wrap (b.toNat + d : Int)) K := ⟨b.toNat + d, by have := b.toNat_lt; rw [IntKind.wrap_i64]; omega, h⟩
theorem Ex1.b8 {b : UInt8} {K : Int → Prop} (h : K b.toNat) : Ex1 (IntKind.u8.wrap (b.toNat : Int)) K := ⟨b.toNat, by have := b.toNat_lt; rw [IntKind.wrap_u8]; omega, h⟩
theorem Got.by {β : Type} {x : Option β} {K : β → Prop} (y : β) (h : x = some y) (k : K y) : Got x K := ⟨y, h, k⟩
theorem Cl.p {P : Program} {f : FuncId} {ds : List D} {r : D} {h : List Blk} {Q : D → List Blk → Prop} (hp : PSpec P f ds r) (hd : ∀ d ∈ ds, Bd 0 d) (hr : Bd 0 r) (hq : Q r h) : Cl (Spec P f ds h Q) := ⟨spec_p hp hd hr hq⟩
theorem Cl.q {P : Program} {f : FuncId} {ds : List D} {r : D} {Q : D → Prop} (hp : PSpec P f ds r) (hd : ∀ d ∈ ds, Bd 0 d) (hr : Bd 0 r) (hq : Q r) : Cl (PCall P f ds Q) := ⟨⟨r, hp, hd, hr, hq⟩⟩

/-- A law's call, in the model's words. -/
theorem PSpec.law {P : Program} {f : FuncId} {ds : List D} (h : PSpec P f ds (.bool true)) (W : World) (args : Array Value) (hr : RepL [] (fun b => b < W.heap.size) W args.toList ds) :
    Calls P f args W fun e W' => e = .returned (.bool true) ∧ RowKit.Below W.heap.size W W' := by
  have m : Mem ⟨W, fun _ => False, fun b => b < W.heap.size, []⟩ [] (fun b => b < W.heap.size) [] W := by
    refine ⟨⟨rfl, by simp, by simp, fun b hb => ?_, fun b hb => hb⟩, ⟨rfl, rfl, rfl, Nat.le_refl _, fun _ _ _ => rfl, fun b hb => ?_, fun _ hb => hb, fun _ hb => .inl hb, Adv.refl _⟩⟩
    · obtain ⟨id, a, k, h1, _⟩ := hb; simp at h1
    · obtain ⟨id, a, k, h1, _⟩ := hb; simp at h1
  refine (h.2 _ [] _ W args m hr).mono ?_
  rintro e W' ⟨v, r, h', α', S', rfl, rfl, m', nx, rv⟩
  cases rv
  exact ⟨rfl, m'.tr.os, m'.tr.tape, m'.tr.output, m'.tr.size, fun b hb => m'.tr.frame b hb (fun x => x)⟩

theorem RepV.of_string {α : List Value} {S : Nat → Prop} {w : World} (s : ByteArray) : RepV α S w (.string s) (.str s.data.toList) := by
  have e : s = ⟨s.data.toList.toArray⟩ := by cases s; simp
  conv => arg 4; rw [e]
  exact .str _

end Go.Ab
