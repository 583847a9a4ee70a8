/- The steps of the engine's memory: what a run has left alone since it began, and what a new block, a write to an own block, the sealing of one do. -/
import Derived.Test.YtamckclacocifaaAb1
namespace Go.Ab

/-- Where a run began: the world, the blocks that it owned, those that nobody writes, the place of each abstract block. -/
structure Base where
  w0 : World
  O0 : Nat → Prop
  S0 : Nat → Prop
  α0 : List Value

/-- What has become of the world since: only owned blocks have changed. -/
structure Tr (B : Base) (α : List Value) (S : Nat → Prop) (h : List Blk) (w : World) : Prop where
  os : w.os = B.w0.os
  tape : w.tape = B.w0.tape
  output : w.output = B.w0.output
  size : B.w0.heap.size ≤ w.heap.size
  frame : ∀ b, b < B.w0.heap.size → ¬ B.O0 b → w.heap[b]? = B.w0.heap[b]?
  own : ∀ b, Own α h b → B.O0 b ∨ B.w0.heap.size ≤ b
  s0 : ∀ b, B.S0 b → S b
  s1 : ∀ b, S b → B.S0 b ∨ B.O0 b ∨ B.w0.heap.size ≤ b
  adv : Adv B.α0 α

structure Mem (B : Base) (α : List Value) (S : Nat → Prop) (h : List Blk) (w : World) : Prop where
  rep : RepH α S h w
  tr : Tr B α S h w

/-- From one state of memory to a later one: what stood stands. -/
structure Nx (α : List Value) (S : Nat → Prop) (w : World) (α' : List Value) (S' : Nat → Prop) (w' : World) : Prop where
  adv : Adv α α'
  sub : ∀ b, S b → S' b
  same : ∀ b, S b → w'.heap[b]? = w.heap[b]?

theorem Nx.refl (α : List Value) (S : Nat → Prop) (w : World) : Nx α S w α S w := ⟨Adv.refl _, fun _ h => h, fun _ _ => rfl⟩

theorem Nx.trans {α α' α'' : List Value} {S S' S'' : Nat → Prop} {w w' w'' : World} (h : Nx α S w α' S' w') (k : Nx α' S' w' α'' S'' w'') : Nx α S w α'' S'' w'' :=
  ⟨h.adv.trans k.adv, fun b hb => k.sub b (h.sub b hb), fun b hb => (k.same b (h.sub b hb)).trans (h.same b hb)⟩

theorem Nx.rep {α α' : List Value} {S S' : Nat → Prop} {w w' : World} (h : Nx α S w α' S' w') {v : Value} {d : D} (r : RepV α S w v d) : RepV α' S' w' v d :=
  r.mono h.adv h.sub h.same

theorem Own.of_set {α : List Value} {h : List Blk} {i : Nat} {a' : Value} {k' : Blk} {b : Nat} (ho : Own (α.set i a') (h.set i k') b) :
    Own α h b ∨ (k'.live = true ∧ vblock a' = some b ∧ i < h.length ∧ i < α.length) := by
  obtain ⟨j, a, k, h1, h2, h3, h4⟩ := ho
  by_cases hij : i = j
  · subst hij
    rw [List.getElem?_set] at h1 h3
    simp only [if_true] at h1 h3
    by_cases hl : i < h.length
    · rw [if_pos hl] at h1
      by_cases hl' : i < α.length
      · rw [if_pos hl'] at h3
        cases h1; cases h3
        exact .inr ⟨h2, h4, hl, hl'⟩
      · rw [if_neg hl'] at h3; cases h3
    · rw [if_neg hl] at h1; cases h1
  · rw [List.getElem?_set_ne hij] at h1 h3
    exact .inl ⟨j, a, k, h1, h2, h3, h4⟩

theorem Own.of_app {α : List Value} {h : List Blk} {a' : Value} {k' : Blk} {b : Nat} (hl : α.length = h.length) (ho : Own (α ++ [a']) (h ++ [k']) b) :
    Own α h b ∨ (k'.live = true ∧ vblock a' = some b) := by
  obtain ⟨j, a, k, h1, h2, h3, h4⟩ := ho
  by_cases hj : j < h.length
  · rw [List.getElem?_append_left hj] at h1
    rw [List.getElem?_append_left (by omega)] at h3
    exact .inl ⟨j, a, k, h1, h2, h3, h4⟩
  · have hj' : j = h.length := by
      have := (List.getElem?_eq_some_iff.1 h1).1
      simp at this; omega
    subst hj'
    rw [List.getElem?_append_right (Nat.le_refl _)] at h1
    rw [List.getElem?_append_right (by omega)] at h3
    simp only [Nat.sub_self, hl] at h1 h3
    cases h1; cases h3
    exact .inr ⟨h2, h4⟩

theorem Adv.set {α : List Value} {i : Nat} {a a' : Value} (ha : α[i]? = some a) (h : a' = a ∨ ∃ k k', slen a = some k ∧ slen a' = some k' ∧ k < k') : Adv α (α.set i a') := by
  intro j c hj
  by_cases hij : i = j
  · subst hij
    rw [ha] at hj; cases hj
    exact ⟨a', by rw [List.getElem?_set_self (List.getElem?_eq_some_iff.1 ha).1], h⟩
  · exact ⟨c, by rw [List.getElem?_set_ne hij]; exact hj, .inl rfl⟩

section
variable {B : Base} {α : List Value} {S : Nat → Prop} {h : List Blk} {w w' : World}

/-- The world has changed nowhere that matters: a draw, say. -/
theorem Mem.heap_same (m : Mem B α S h w) (hh : w'.heap = w.heap) (h1 : w'.os = w.os) (h2 : w'.tape = w.tape) (h3 : w'.output = w.output) : Mem B α S h w' ∧ Nx α S w α S w' := by
  have e : ∀ b : Nat, w'.heap[b]? = w.heap[b]? := fun b => by rw [hh]
  refine ⟨⟨⟨m.rep.len, fun id k a e1 e2 => (m.rep.rep id k a e1 e2).mono (Adv.refl _) (fun _ x => x) (fun b _ => e b) (fun b _ => e b), m.rep.inj, m.rep.sep, fun b hb => by rw [hh]; exact m.rep.lt b hb⟩,
    ⟨h1.trans m.tr.os, h2.trans m.tr.tape, h3.trans m.tr.output, by rw [hh]; exact m.tr.size, fun b x y => by rw [hh]; exact m.tr.frame b x y, m.tr.own, m.tr.s0, m.tr.s1, m.tr.adv⟩⟩, ⟨Adv.refl _, fun _ x => x, fun b _ => e b⟩⟩

/-- The world has got new blocks that nobody names. -/
theorem Mem.grow (m : Mem B α S h w) (hs : w.heap.size ≤ w'.heap.size) (hh : ∀ b, b < w.heap.size → w'.heap[b]? = w.heap[b]?) (h1 : w'.os = w.os) (h2 : w'.tape = w.tape) (h3 : w'.output = w.output) :
    Mem B α S h w' ∧ Nx α S w α S w' := by
  refine ⟨⟨⟨m.rep.len, fun id k a e1 e2 => ?_, m.rep.inj, m.rep.sep, fun b hb => Nat.lt_of_lt_of_le (m.rep.lt b hb) hs⟩,
    ⟨h1.trans m.tr.os, h2.trans m.tr.tape, h3.trans m.tr.output, Nat.le_trans m.tr.size hs, fun b x y => (hh b (Nat.lt_of_lt_of_le x m.tr.size)).trans (m.tr.frame b x y), m.tr.own, m.tr.s0, m.tr.s1, m.tr.adv⟩⟩,
    ⟨Adv.refl _, fun _ x => x, fun b hb => hh b (m.rep.lt b hb)⟩⟩
  have r := m.rep.rep id k a e1 e2
  cases hk : k.live with
  | false => cases k <;> first | trivial | cases hk
  | true => exact r.mono (Adv.refl _) (fun _ x => x) (fun b hb => hh b (m.rep.lt b hb)) (fun b hb => hh b (r.vblock_lt hk hb))

/-- A new block of the abstract memory, in a new block of the world. -/
theorem Mem.alloc (m : Mem B α S h w) (a : Value) (k : Blk) (hs : w.heap.size ≤ w'.heap.size) (hh : ∀ b, b < w.heap.size → w'.heap[b]? = w.heap[b]?) (h1 : w'.os = w.os) (h2 : w'.tape = w.tape) (h3 : w'.output = w.output)
    (ha : ∀ b, vblock a = some b → w.heap.size ≤ b) (hr : RepB (α ++ [a]) S w' a k) : Mem B (α ++ [a]) S (h ++ [k]) w' ∧ Nx α S w (α ++ [a]) S w' := by
  have nx : Nx α S w (α ++ [a]) S w' := ⟨Adv.app _ _, fun _ x => x, fun b hb => hh b (m.rep.lt b hb)⟩
  refine ⟨⟨⟨by simp [m.rep.len], fun id k' a' e1 e2 => ?_, ?_, ?_, fun b hb => Nat.lt_of_lt_of_le (m.rep.lt b hb) hs⟩, ⟨h1.trans m.tr.os, h2.trans m.tr.tape, h3.trans m.tr.output, Nat.le_trans m.tr.size hs,
    fun b x y => (hh b (Nat.lt_of_lt_of_le x m.tr.size)).trans (m.tr.frame b x y), ?_, m.tr.s0, m.tr.s1, m.tr.adv.trans (Adv.app _ _)⟩⟩, nx⟩
  · by_cases hid : id < h.length
    · rw [List.getElem?_append_left hid] at e1
      rw [List.getElem?_append_left (by rw [m.rep.len]; exact hid)] at e2
      have r := m.rep.rep id k' a' e1 e2
      cases hk : k'.live with
      | false => cases k' <;> first | trivial | cases hk
      | true => exact r.mono nx.adv nx.sub nx.same (fun b hb => hh b (r.vblock_lt hk hb))
    · have hj' : id = h.length := by
        have := (List.getElem?_eq_some_iff.1 e1).1
        simp at this; omega
      subst hj'
      rw [List.getElem?_append_right (Nat.le_refl _)] at e1
      rw [List.getElem?_append_right (by rw [m.rep.len]; exact Nat.le_refl _)] at e2
      simp only [Nat.sub_self, m.rep.len] at e1 e2
      cases e1; cases e2
      exact hr
  · have key : ∀ (i : Nat) (a1 : Value) (k1 : Blk) (b : Nat), (h ++ [k])[i]? = some k1 → k1.live = true → (α ++ [a])[i]? = some a1 → vblock a1 = some b →
        (i < h.length ∧ h[i]? = some k1 ∧ α[i]? = some a1 ∧ b < w.heap.size) ∨ (i = h.length ∧ w.heap.size ≤ b) := by
      intro i a1 k1 b e1 e2 e3 e4
      by_cases hid : i < h.length
      · rw [List.getElem?_append_left hid] at e1
        rw [List.getElem?_append_left (by rw [m.rep.len]; exact hid)] at e3
        exact .inl ⟨hid, e1, e3, (m.rep.rep i k1 a1 e1 e3).vblock_lt e2 e4⟩
      · have hj' : i = h.length := by
          have := (List.getElem?_eq_some_iff.1 e1).1
          simp at this; omega
        refine .inr ⟨hj', ?_⟩
        subst hj'
        rw [List.getElem?_append_right (by rw [m.rep.len]; exact Nat.le_refl _)] at e3
        simp only [m.rep.len, Nat.sub_self] at e3
        cases e3
        exact ha b e4
    intro i j a1 a2 k1 k2 b e1 e2 e3 e4 f1 f2 f3 f4
    rcases key i a1 k1 b e1 e2 e3 e4 with ⟨_, g1, g2, g3⟩ | ⟨g1, g2⟩
    · rcases key j a2 k2 b f1 f2 f3 f4 with ⟨_, l1, l2, l3⟩ | ⟨l1, l2⟩
      · exact m.rep.inj i j a1 a2 k1 k2 b g1 e2 g2 e4 l1 f2 l2 f4
      · omega
    · rcases key j a2 k2 b f1 f2 f3 f4 with ⟨_, l1, l2, l3⟩ | ⟨l1, l2⟩
      · omega
      · omega
  · intro b ho hS
    rcases ho.of_app m.rep.len with ho | ⟨_, hb⟩
    · exact m.rep.sep b ho hS
    · have := ha b hb; have := m.rep.lt b hS; omega
  · intro b ho
    rcases ho.of_app m.rep.len with ho | ⟨_, hb⟩
    · exact m.tr.own b ho
    · exact .inr (Nat.le_trans m.tr.size (ha b hb))

/-- An own block is written, or moved. -/
theorem Mem.upd (m : Mem B α S h w) {i : Nat} {a a' : Value} {k k' : Blk} (hi : h[i]? = some k) (hk : k.live = true) (hα : α[i]? = some a)
    (hadv : a' = a ∨ ∃ n n', slen a = some n ∧ slen a' = some n' ∧ n < n') (hs : w.heap.size ≤ w'.heap.size)
    (hh : ∀ b, b < w.heap.size → vblock a ≠ some b → w'.heap[b]? = w.heap[b]?) (h1 : w'.os = w.os) (h2 : w'.tape = w.tape) (h3 : w'.output = w.output)
    (ha : ∀ b, vblock a' = some b → vblock a = some b ∨ w.heap.size ≤ b) (hr : RepB (α.set i a') S w' a' k') : Mem B (α.set i a') S (h.set i k') w' ∧ Nx α S w (α.set i a') S w' := by
  have notS : ∀ b, S b → vblock a ≠ some b := fun b hb e => m.rep.sep b ⟨i, a, k, hi, hk, hα, e⟩ hb
  have nx : Nx α S w (α.set i a') S w' := ⟨Adv.set hα hadv, fun _ x => x, fun b hb => hh b (m.rep.lt b hb) (notS b hb)⟩
  have il : i < h.length := (List.getElem?_eq_some_iff.1 hi).1
  refine ⟨⟨⟨by simp [m.rep.len], fun id k1 a1 e1 e2 => ?_, ?_, ?_, fun b hb => Nat.lt_of_lt_of_le (m.rep.lt b hb) hs⟩, ⟨h1.trans m.tr.os, h2.trans m.tr.tape, h3.trans m.tr.output, Nat.le_trans m.tr.size hs,
    fun b x y => ?_, ?_, m.tr.s0, m.tr.s1, m.tr.adv.trans nx.adv⟩⟩, nx⟩
  · by_cases hid : i = id
    · subst hid
      rw [List.getElem?_set_self il] at e1
      rw [List.getElem?_set_self (by rw [m.rep.len]; exact il)] at e2
      cases e1; cases e2
      exact hr
    · rw [List.getElem?_set_ne hid] at e1 e2
      have r := m.rep.rep id k1 a1 e1 e2
      cases hk1 : k1.live with
      | false => cases k1 <;> first | trivial | cases hk1
      | true => exact r.mono nx.adv nx.sub nx.same (fun b hb => hh b (r.vblock_lt hk1 hb) (fun e => hid (m.rep.inj i id a a1 k k1 b hi hk hα e e1 hk1 e2 hb)))
  · have key : ∀ (j : Nat) (a1 : Value) (k1 : Blk) (b : Nat), (h.set i k')[j]? = some k1 → k1.live = true → (α.set i a')[j]? = some a1 → vblock a1 = some b →
        (i ≠ j ∧ h[j]? = some k1 ∧ α[j]? = some a1 ∧ b < w.heap.size ∧ vblock a ≠ some b) ∨ (i = j ∧ (vblock a = some b ∨ w.heap.size ≤ b)) := by
      intro j a1 k1 b e1 e2 e3 e4
      by_cases hid : i = j
      · subst hid
        rw [List.getElem?_set_self (by rw [m.rep.len]; exact il)] at e3
        cases e3
        exact .inr ⟨rfl, ha b e4⟩
      · rw [List.getElem?_set_ne hid] at e1 e3
        exact .inl ⟨hid, e1, e3, (m.rep.rep j k1 a1 e1 e3).vblock_lt e2 e4, fun e => hid (m.rep.inj i j a a1 k k1 b hi hk hα e e1 e2 e3 e4)⟩
    intro p q a1 a2 k1 k2 b e1 e2 e3 e4 f1 f2 f3 f4
    rcases key p a1 k1 b e1 e2 e3 e4 with ⟨_, g1, g2, g3, g4⟩ | ⟨g1, g2⟩
    · rcases key q a2 k2 b f1 f2 f3 f4 with ⟨_, l1, l2, l3, l4⟩ | ⟨l1, l2⟩
      · exact m.rep.inj p q a1 a2 k1 k2 b g1 e2 g2 e4 l1 f2 l2 f4
      · rcases l2 with l2 | l2
        · exact absurd l2 g4
        · omega
    · rcases key q a2 k2 b f1 f2 f3 f4 with ⟨_, l1, l2, l3, l4⟩ | ⟨l1, l2⟩
      · rcases g2 with g2 | g2
        · exact absurd g2 l4
        · omega
      · omega
  · intro b ho hS
    rcases ho.of_set with ho | ⟨_, hb, _⟩
    · exact m.rep.sep b ho hS
    · rcases ha b hb with e | e
      · exact notS b hS e
      · have := m.rep.lt b hS; omega
  · refine (hh b (Nat.lt_of_lt_of_le x m.tr.size) (fun e => ?_)).trans (m.tr.frame b x y)
    rcases m.tr.own b ⟨i, a, k, hi, hk, hα, e⟩ with f | f
    · exact y f
    · omega
  · intro b ho
    rcases ho.of_set with ho | ⟨_, hb, _⟩
    · exact m.tr.own b ho
    · rcases ha b hb with e | e
      · exact m.tr.own b ⟨i, a, k, hi, hk, hα, e⟩
      · exact .inr (Nat.le_trans m.tr.size e)

/-- A block is given up; if it was a slice or a box, its world's block may be read for ever. -/
theorem Mem.seal_ (m : Mem B α S h w) {i : Nat} {a : Value} {k : Blk} (hi : h[i]? = some k) (hk : k.live = true) (hα : α[i]? = some a) :
    Mem B α (fun b => S b ∨ vblock a = some b) (h.set i .dead) w ∧ Nx α S w α (fun b => S b ∨ vblock a = some b) w := by
  have nx : Nx α S w α (fun b => S b ∨ vblock a = some b) w := ⟨Adv.refl _, fun _ x => .inl x, fun _ _ => rfl⟩
  have il : i < h.length := (List.getElem?_eq_some_iff.1 hi).1
  have sub : ∀ b, Own α (h.set i .dead) b → Own α h b ∧ vblock a ≠ some b := by
    rintro b ⟨j, a1, k1, e1, e2, e3, e4⟩
    by_cases hij : i = j
    · subst hij
      rw [List.getElem?_set_self il] at e1
      cases e1; cases e2
    · rw [List.getElem?_set_ne hij] at e1
      exact ⟨⟨j, a1, k1, e1, e2, e3, e4⟩, fun e => hij (m.rep.inj i j a a1 k k1 b hi hk hα e e1 e2 e3 e4)⟩
  refine ⟨⟨⟨by simp [m.rep.len], fun id k1 a1 e1 e2 => ?_, ?_, ?_, ?_⟩, ⟨m.tr.os, m.tr.tape, m.tr.output, m.tr.size, m.tr.frame, fun b ho => m.tr.own b (sub b ho).1, fun b hb => .inl (m.tr.s0 b hb), ?_, m.tr.adv⟩⟩, nx⟩
  · by_cases hid : i = id
    · subst hid
      rw [List.getElem?_set_self il] at e1
      cases e1
      trivial
    · rw [List.getElem?_set_ne hid] at e1
      exact (m.rep.rep id k1 a1 e1 e2).mono nx.adv nx.sub nx.same (fun _ _ => rfl)
  · intro p q a1 a2 k1 k2 b e1 e2 e3 e4 f1 f2 f3 f4
    have fix : ∀ (j : Nat) (k1 : Blk), (h.set i .dead)[j]? = some k1 → k1.live = true → h[j]? = some k1 := by
      intro j k1 e1 e2
      by_cases hid : i = j
      · subst hid
        rw [List.getElem?_set_self il] at e1
        cases e1; cases e2
      · rwa [List.getElem?_set_ne hid] at e1
    exact m.rep.inj p q a1 a2 k1 k2 b (fix p k1 e1 e2) e2 e3 e4 (fix q k2 f1 f2) f2 f3 f4
  · intro b ho hS
    rcases hS with hS | hS
    · exact m.rep.sep b (sub b ho).1 hS
    · exact (sub b ho).2 hS
  · intro b hb
    rcases hb with hb | hb
    · exact m.rep.lt b hb
    · exact (m.rep.rep i k a hi hα).vblock_lt hk hb
  · intro b hb
    rcases hb with hb | hb
    · exact m.tr.s1 b hb
    · rcases m.tr.own b ⟨i, a, k, hi, hk, hα, hb⟩ with e | e
      · exact .inr (.inl e)
      · exact .inr (.inr e)

end
end Go.Ab
