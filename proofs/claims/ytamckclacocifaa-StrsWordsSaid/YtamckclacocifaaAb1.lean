/- The data of the engine: abstract values, abstract memory, and how they stand in a world; that they go on standing where the cells they rest on stay. -/
import Derived.WalkKit
namespace Go.Ab

/-- Abstract values. 'agg' is flat, as in the model; 'list' is a slice whose cells nobody writes any more; 'ref', 'ptr', 'eptr', 'hnd' name a block of the abstract memory. -/
inductive D where
  | int (k : IntKind) (n : Int)
  | bool (b : Bool)
  | str (s : List UInt8)
  | agg (cs : List D)
  | tup (vs : List D)
  | list (xs : List D)
  | pd (cs : List D)
  | ptr (id off : Nat)
  | ref (id n : Nat)
  | eptr (id n esz i off : Nat)
  | hnd (id : Nat)
  | fn (f : FuncId) (first cap : List D)
  | iface (t : TypeId) (d : D)
  | nilf | nilp | nili | nilm | nils | undef
  deriving Inhabited

def D.cells : D → List D
  | .agg cs => cs
  | d => [d]

/-- One cell's value. -/
def D.leaf : D → Bool
  | .agg _ | .tup _ | .undef => false
  | _ => true

/-- A cell's value, or a flat aggregate of such. -/
def D.good : D → Bool
  | .agg cs => cs.all D.leaf
  | .tup _ | .undef => false
  | _ => true

theorem D.leaf_of_good {d c : D} (h : d.good = true) (hc : c ∈ d.cells) : c.leaf = true := by
  cases d <;> simp_all [D.good, D.cells, D.leaf]

inductive Blk where
  | dead
  | box (cs : List D)
  | slice (esz : Nat) (ty : TypeId) (xs : List D)
  | iter (s : List UInt8) (pos : Nat)

def Blk.live : Blk → Bool
  | .dead => false
  | _ => true

def slen : Value → Option Nat
  | .slice _ n _ => some n
  | _ => none

def vblock : Value → Option Nat
  | .pointer (some a) => some a.block
  | .slice (some a) _ _ => some a.block
  | .map (some r) => some r
  | _ => none

/-- A value stands for abstract data: α says where each block of the abstract memory lies, S which blocks of the world nobody writes. -/
inductive RepV (α : List Value) (S : Nat → Prop) (w : World) : Value → D → Prop where
  | int (k : IntKind) (n : Int) : RepV α S w (.int k n) (.int k n)
  | bool (b : Bool) : RepV α S w (.bool b) (.bool b)
  | str (s : List UInt8) : RepV α S w (.string ⟨s.toArray⟩) (.str s)
  | agg (vs : Array Value) (cs : List D) (hs : vs.size = cs.length) (hl : ∀ c ∈ cs, c.leaf = true)
      (h : ∀ (i : Nat) (v : Value) (c : D), vs[i]? = some v → cs[i]? = some c → RepV α S w v c) : RepV α S w (.agg vs) (.agg cs)
  | tup (vs : Array Value) (cs : List D) (hs : vs.size = cs.length)
      (h : ∀ (i : Nat) (v : Value) (c : D), vs[i]? = some v → cs[i]? = some c → RepV α S w v c) : RepV α S w (.tuple vs) (.tup cs)
  | nil : RepV α S w (.slice none 0 0) (.list [])
  | list (b off n cap esz : Nat) (xs : List D) (cv : Nat → Nat → Value) (hn : n = xs.length) (hcap : n ≤ cap) (hS : S b) (he : ∀ x ∈ xs, x.cells.length = esz ∧ x.good = true)
      (hc : ∀ (i : Nat) (x : D) (j : Nat) (c : D), xs[i]? = some x → x.cells[j]? = some c → w.cell? ⟨b, off + i * esz + j, none⟩ = some (cv i j))
      (hr : ∀ (i : Nat) (x : D) (j : Nat) (c : D), xs[i]? = some x → x.cells[j]? = some c → RepV α S w (cv i j) c) :
      RepV α S w (.slice (some ⟨b, off, none⟩) n cap) (.list xs)
  | pd (b off : Nat) (cs : List D) (cv : Nat → Value) (hS : S b) (hl : ∀ c ∈ cs, c.leaf = true)
      (hc : ∀ (j : Nat) (c : D), cs[j]? = some c → w.cell? ⟨b, off + j, none⟩ = some (cv j))
      (hr : ∀ (j : Nat) (c : D), cs[j]? = some c → RepV α S w (cv j) c) : RepV α S w (.pointer (some ⟨b, off, none⟩)) (.pd cs)
  | ptr (id off b : Nat) (h : α[id]? = some (.pointer (some ⟨b, 0, none⟩))) : RepV α S w (.pointer (some ⟨b, off, none⟩)) (.ptr id off)
  | ref (id n k : Nat) (v a : Value) (h : α[id]? = some a) (hk : slen a = some k) (hn : n ≤ k) (hs : slen v = some n) (hv : n = k → v = a) : RepV α S w v (.ref id n)
  | eptr (id n k esz i off : Nat) (v a : Value) (h : α[id]? = some a) (hk : slen a = some k) (hn : n ≤ k) (hp : ∃ x, v = .pointer (some x))
      (hv : n = k → ∃ b o cap, a = .slice (some ⟨b, o, none⟩) k cap ∧ v = .pointer (some ⟨b, o + i * esz + off, none⟩)) : RepV α S w v (.eptr id n esz i off)
  | hnd (id : Nat) (v : Value) (h : α[id]? = some v) (hs : slen v = none) (hl : v.oneCell' = true) : RepV α S w v (.hnd id)
  | fn (f : FuncId) (first cap : Array Value) (fd cd : List D) (h1 : first.size = fd.length) (h2 : cap.size = cd.length)
      (h3 : ∀ (i : Nat) (v : Value) (c : D), first[i]? = some v → fd[i]? = some c → RepV α S w v c)
      (h4 : ∀ (i : Nat) (v : Value) (c : D), cap[i]? = some v → cd[i]? = some c → RepV α S w v c) : RepV α S w (.func (.func f) first cap) (.fn f fd cd)
  | iface (t : TypeId) (v : Value) (d : D) (h : RepV α S w v d) : RepV α S w (.iface t v) (.iface t d)
  | nilf : RepV α S w .nilFunc .nilf
  | nilp : RepV α S w (.pointer none) .nilp
  | nili : RepV α S w .nilIface .nili
  | nilm : RepV α S w (.map none) .nilm
  | nils : RepV α S w (.slice none 0 0) .nils
  | undef : RepV α S w undef .undef

/-- The abstract memory goes on: a block stays where it is, or it is a slice that has become longer. -/
def Adv (α α' : List Value) : Prop :=
  ∀ (id : Nat) (a : Value), α[id]? = some a → ∃ a', α'[id]? = some a' ∧ (a' = a ∨ ∃ k k', slen a = some k ∧ slen a' = some k' ∧ k < k')

theorem Adv.refl (α : List Value) : Adv α α := fun _ a h => ⟨a, h, .inl rfl⟩

theorem Adv.trans {α β γ : List Value} (h : Adv α β) (k : Adv β γ) : Adv α γ := by
  intro id a ha
  obtain ⟨b, hb, h1⟩ := h id a ha
  obtain ⟨c, hc, h2⟩ := k id b hb
  refine ⟨c, hc, ?_⟩
  rcases h1 with rfl | ⟨m, m', e1, e2, e3⟩
  · exact h2
  · rcases h2 with rfl | ⟨p, p', f1, f2, f3⟩
    · exact .inr ⟨m, m', e1, e2, e3⟩
    · rw [e2] at f1
      obtain rfl := Option.some.inj f1
      exact .inr ⟨m, p', e1, f2, by omega⟩

theorem Adv.app (α β : List Value) : Adv α (α ++ β) := fun id a h => ⟨a, by
  rw [List.getElem?_append_left (List.getElem?_eq_some_iff.1 h).1]; exact h, .inl rfl⟩

theorem Adv.of_noslice {α α' : List Value} (h : Adv α α') {id : Nat} {a : Value} (ha : α[id]? = some a) (hs : slen a = none) : α'[id]? = some a := by
  obtain ⟨a', h1, h2⟩ := h id a ha
  rcases h2 with rfl | ⟨k, k', e, _⟩
  · exact h1
  · rw [hs] at e; cases e

theorem cell_of_block {w w' : World} {b : Nat} (h : w'.heap[b]? = w.heap[b]?) (o : Nat) : w'.cell? ⟨b, o, none⟩ = w.cell? ⟨b, o, none⟩ :=
  World.cell?_of_block (a := ⟨b, o, none⟩) h

/-- What stands goes on standing. -/
theorem RepV.mono {α α' : List Value} {S S' : Nat → Prop} {w w' : World} (hα : Adv α α') (hS : ∀ b, S b → S' b)
    (hw : ∀ b, S b → w'.heap[b]? = w.heap[b]?) {v : Value} {d : D} (h : RepV α S w v d) : RepV α' S' w' v d := by
  induction h with
  | int k n => exact .int k n
  | bool b => exact .bool b
  | str s => exact .str s
  | agg vs cs hs hl _ ih => exact .agg vs cs hs hl ih
  | tup vs cs hs _ ih => exact .tup vs cs hs ih
  | nil => exact .nil
  | list b off n cap esz xs cv hn hcap hSb he hc _ ih =>
    exact .list b off n cap esz xs cv hn hcap (hS _ hSb) he (fun i x j c h1 h2 => by rw [cell_of_block (hw _ hSb)]; exact hc i x j c h1 h2) ih
  | pd b off cs cv hSb hl hc _ ih => exact .pd b off cs cv (hS _ hSb) hl (fun j c h => by rw [cell_of_block (hw _ hSb)]; exact hc j c h) ih
  | ptr id off b h => exact .ptr id off b (hα.of_noslice h rfl)
  | ref id n k v a h hk hn hs hv =>
    obtain ⟨a', h1, h2⟩ := hα id a h
    rcases h2 with rfl | ⟨m, m', e1, e2, e3⟩
    · exact .ref id n k v a' h1 hk hn hs hv
    · rw [hk] at e1
      obtain rfl := Option.some.inj e1
      exact .ref id n m' v a' h1 e2 (by omega) hs (fun e => by omega)
  | eptr id n k esz i off v a h hk hn hp hv =>
    obtain ⟨a', h1, h2⟩ := hα id a h
    rcases h2 with rfl | ⟨m, m', e1, e2, e3⟩
    · exact .eptr id n k esz i off v a' h1 hk hn hp hv
    · rw [hk] at e1
      obtain rfl := Option.some.inj e1
      exact .eptr id n m' esz i off v a' h1 e2 (by omega) hp (fun e => by omega)
  | hnd id v h hs hl => exact .hnd id v (hα.of_noslice h hs) hs hl
  | fn f first cap fd cd h1 h2 _ _ ih1 ih2 => exact .fn f first cap fd cd h1 h2 ih1 ih2
  | iface t v d _ ih => exact .iface t v d ih
  | nilf => exact .nilf
  | nilp => exact .nilp
  | nili => exact .nili
  | nilm => exact .nilm
  | nils => exact .nils
  | undef => exact .undef

/-- The data names no block from number n on. -/
inductive Bd (n : Nat) : D → Prop where
  | int (k : IntKind) (m : Int) : Bd n (.int k m)
  | bool (b : Bool) : Bd n (.bool b)
  | str (s : List UInt8) : Bd n (.str s)
  | agg (cs : List D) (h : ∀ c ∈ cs, Bd n c) : Bd n (.agg cs)
  | tup (cs : List D) (h : ∀ c ∈ cs, Bd n c) : Bd n (.tup cs)
  | list (cs : List D) (h : ∀ c ∈ cs, Bd n c) : Bd n (.list cs)
  | pd (cs : List D) (h : ∀ c ∈ cs, Bd n c) : Bd n (.pd cs)
  | ptr (id off : Nat) (h : id < n) : Bd n (.ptr id off)
  | ref (id m : Nat) (h : id < n) : Bd n (.ref id m)
  | eptr (id m esz i off : Nat) (h : id < n) : Bd n (.eptr id m esz i off)
  | hnd (id : Nat) (h : id < n) : Bd n (.hnd id)
  | fn (f : FuncId) (fd cd : List D) (h1 : ∀ c ∈ fd, Bd n c) (h2 : ∀ c ∈ cd, Bd n c) : Bd n (.fn f fd cd)
  | iface (t : TypeId) (d : D) (h : Bd n d) : Bd n (.iface t d)
  | nilf : Bd n .nilf
  | nilp : Bd n .nilp
  | nili : Bd n .nili
  | nilm : Bd n .nilm
  | nils : Bd n .nils
  | undef : Bd n .undef

theorem Bd.cells {n : Nat} {x c : D} (h : Bd n x) (hc : c ∈ x.cells) : Bd n c := by
  have h' := h
  cases h <;> simp only [D.cells, List.mem_singleton] at hc <;> (try (subst hc; exact h'))
  case agg h => exact h _ hc

theorem Bd.mono {n m : Nat} (hnm : n ≤ m) {d : D} (h : Bd n d) : Bd m d := by
  induction h with
  | int k a => exact .int k a
  | bool b => exact .bool b
  | str s => exact .str s
  | agg cs _ ih => exact .agg cs ih
  | tup cs _ ih => exact .tup cs ih
  | list cs _ ih => exact .list cs ih
  | pd cs _ ih => exact .pd cs ih
  | ptr id off h => exact .ptr id off (by omega)
  | ref id m h => exact .ref id m (by omega)
  | eptr id m esz i off h => exact .eptr id m esz i off (by omega)
  | hnd id h => exact .hnd id (by omega)
  | fn f fd cd _ _ ih1 ih2 => exact .fn f fd cd ih1 ih2
  | iface t d _ ih => exact .iface t d ih
  | nilf => exact .nilf
  | nilp => exact .nilp
  | nili => exact .nili
  | nilm => exact .nilm
  | nils => exact .nils
  | undef => exact .undef

/-- Data that names no block from n on stands wherever the first n blocks lie alike. -/
theorem RepV.agree {α β : List Value} {S : Nat → Prop} {w : World} {n : Nat} (hab : ∀ id, id < n → β[id]? = α[id]?) {v : Value} {d : D} (h : RepV α S w v d) (hb : Bd n d) : RepV β S w v d := by
  induction h with
  | int k n => exact .int k n
  | bool b => exact .bool b
  | str s => exact .str s
  | agg vs cs hs hl _ ih =>
    cases hb with
    | agg _ hb => exact .agg vs cs hs hl fun i v c h1 h2 => ih i v c h1 h2 (hb c (List.mem_of_getElem? h2))
  | tup vs cs hs _ ih =>
    cases hb with
    | tup _ hb => exact .tup vs cs hs fun i v c h1 h2 => ih i v c h1 h2 (hb c (List.mem_of_getElem? h2))
  | nil => exact .nil
  | list b off n cap esz xs cv hn hcap hSb he hc _ ih =>
    cases hb with
    | list _ hb => exact .list b off n cap esz xs cv hn hcap hSb he hc fun i x j c h1 h2 => ih i x j c h1 h2 ((hb x (List.mem_of_getElem? h1)).cells (List.mem_of_getElem? h2))
  | pd b off cs cv hSb hl hc _ ih =>
    cases hb with
    | pd _ hb => exact .pd b off cs cv hSb hl hc fun j c h1 => ih j c h1 (hb c (List.mem_of_getElem? h1))
  | ptr id off b h => cases hb with | ptr _ _ hb => exact .ptr id off b (by rw [hab _ hb]; exact h)
  | ref id n k v a h hk hn hs hv => cases hb with | ref _ _ hb => exact .ref id n k v a (by rw [hab _ hb]; exact h) hk hn hs hv
  | eptr id n k esz i off v a h hk hn hp hv => cases hb with | eptr _ _ _ _ _ hb => exact .eptr id n k esz i off v a (by rw [hab _ hb]; exact h) hk hn hp hv
  | hnd id v h hs hl => cases hb with | hnd _ hb => exact .hnd id v (by rw [hab _ hb]; exact h) hs hl
  | fn f first cap fd cd h1 h2 _ _ ih1 ih2 =>
    cases hb with
    | fn _ _ _ b1 b2 => exact .fn f first cap fd cd h1 h2 (fun i v c e1 e2 => ih1 i v c e1 e2 (b1 c (List.mem_of_getElem? e2))) (fun i v c e1 e2 => ih2 i v c e1 e2 (b2 c (List.mem_of_getElem? e2)))
  | iface t v d _ ih => cases hb with | iface _ _ hb => exact .iface t v d (ih hb)
  | nilf => exact .nilf
  | nilp => exact .nilp
  | nili => exact .nili
  | nilm => exact .nilm
  | nils => exact .nils
  | undef => exact .undef

/-- How a block of the abstract memory lies in a world. -/
def RepB (α : List Value) (S : Nat → Prop) (w : World) (a : Value) : Blk → Prop
  | .dead => True
  | .box cs => ∃ b ty vs, a = .pointer (some ⟨b, 0, none⟩) ∧ w.heap[b]? = some (.cells vs ty (0, 0)) ∧ vs.size = cs.length ∧ (∀ c ∈ cs, c.leaf = true) ∧
      ∀ (i : Nat) (v : Value) (c : D), vs[i]? = some v → cs[i]? = some c → RepV α S w v c
  | .slice esz ty xs => (a = .slice none 0 0 ∧ xs = []) ∨
      ∃ b off cap vs fr, a = .slice (some ⟨b, off, none⟩) xs.length cap ∧ w.heap[b]? = some (.cells vs ty fr) ∧ (∀ o, o < vs.size → ¬ (fr.1 ≤ o ∧ o < fr.2)) ∧ off + cap * esz ≤ vs.size ∧
        xs.length ≤ cap ∧ (∀ x ∈ xs, x.cells.length = esz ∧ x.good = true) ∧
        ∀ (i : Nat) (x : D) (j : Nat) (c : D), xs[i]? = some x → x.cells[j]? = some c → ∃ v, vs[off + i * esz + j]? = some v ∧ RepV α S w v c
  | .iter s pos => ∃ r, a = .pointer (some ⟨r, 0, none⟩) ∧ w.heap[r]? = some (.stringIter ⟨s.toArray⟩ pos)

/-- The blocks of the world that the abstract memory owns. -/
def Own (α : List Value) (h : List Blk) (b : Nat) : Prop := ∃ (id : Nat) (a : Value) (k : Blk), h[id]? = some k ∧ k.live = true ∧ α[id]? = some a ∧ vblock a = some b

structure RepH (α : List Value) (S : Nat → Prop) (h : List Blk) (w : World) : Prop where
  len : α.length = h.length
  rep : ∀ (id : Nat) (k : Blk) (a : Value), h[id]? = some k → α[id]? = some a → RepB α S w a k
  inj : ∀ (i j : Nat) (a c : Value) (k l : Blk) (b : Nat), h[i]? = some k → k.live = true → α[i]? = some a → vblock a = some b →
    h[j]? = some l → l.live = true → α[j]? = some c → vblock c = some b → i = j
  sep : ∀ b, Own α h b → ¬ S b
  lt : ∀ b, S b → b < w.heap.size

theorem RepB.vblock_lt {α : List Value} {S : Nat → Prop} {w : World} {a : Value} {k : Blk} {b : Nat} (h : RepB α S w a k) (hl : k.live = true) (hb : vblock a = some b) : b < w.heap.size := by
  cases k with
  | dead => cases hl
  | box cs =>
    obtain ⟨b', ty, vs, rfl, h1, _⟩ := h
    cases hb
    exact (Array.getElem?_eq_some_iff.1 h1).1
  | slice esz ty xs =>
    rcases h with ⟨rfl, _⟩ | ⟨b', off, cap, vs, fr, rfl, h1, _⟩
    · cases hb
    · cases hb
      exact (Array.getElem?_eq_some_iff.1 h1).1
  | iter s pos =>
    obtain ⟨r, rfl, h1⟩ := h
    cases hb
    exact (Array.getElem?_eq_some_iff.1 h1).1

theorem RepB.mono {α α' : List Value} {S S' : Nat → Prop} {w w' : World} (hα : Adv α α') (hS : ∀ b, S b → S' b)
    (hw : ∀ b, S b → w'.heap[b]? = w.heap[b]?) {a : Value} {k : Blk} (hb : ∀ b, vblock a = some b → w'.heap[b]? = w.heap[b]?) (h : RepB α S w a k) : RepB α' S' w' a k := by
  cases k with
  | dead => trivial
  | box cs =>
    obtain ⟨b', ty, vs, rfl, h1, h2, h3, h4⟩ := h
    exact ⟨b', ty, vs, rfl, by rw [hb _ rfl]; exact h1, h2, h3, fun i v c e1 e2 => (h4 i v c e1 e2).mono hα hS hw⟩
  | slice esz ty xs =>
    rcases h with h | ⟨b', off, cap, vs, fr, rfl, h1, h2, h3, h4, h5, h6⟩
    · exact .inl h
    · exact .inr ⟨b', off, cap, vs, fr, rfl, by rw [hb _ rfl]; exact h1, h2, h3, h4, h5, fun i x j c e1 e2 => let ⟨v, f1, f2⟩ := h6 i x j c e1 e2; ⟨v, f1, f2.mono hα hS hw⟩⟩
  | iter s pos =>
    obtain ⟨r, rfl, h1⟩ := h
    exact ⟨r, rfl, by rw [hb _ rfl]; exact h1⟩

end Go.Ab
