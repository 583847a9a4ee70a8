/- Code: what the engine asks of it, and that the model then does so. Contracts out of it. -/
import Derived.Test.YtamckclacocifaaAb20
namespace Go.Ab

inductive X where
  | norm
  | exit (id : Nat)
  | ret

def thn (K : Tm → List Blk → Prop) (Q : X → Tm → List Blk → Prop) : X → Tm → List Blk → Prop
  | .norm => K
  | e => Q e

def inb (id : Nat) (Q : X → Tm → List Blk → Prop) : X → Tm → List Blk → Prop
  | .exit id' => if id' = id then Q .norm else Q (.exit id')
  | e => Q e

/-- Less is said of the same model's state. -/
def Weak (n0 : Nat) (t : Tm) (h : List Blk) (t' : Tm) (h' : List Blk) : Prop := ∀ (B : Base) N a w, B.α0.length ≤ n0 → Rs B N t h a w → Rs B N t' h' a w

/-- Rounds; at each round's head less may be said. -/
def lp (n0 : Nat) (F : (Tm → List Blk → Prop) → Tm → List Blk → Prop) : Nat → Tm → List Blk → Prop
  | 0, _, _ => False
  | n + 1, t, h => F (fun t1 h1 => ∃ t2 h2, Weak n0 t1 h1 t2 h2 ∧ lp n0 F n t2 h2) t h

def aw (P : Program) (n0 : Nat) : Code → (X → Tm → List Blk → Prop) → Tm → List Blk → Prop
  | .skip, Q, t, h => Q .norm t h
  | .label _, Q, t, h => Q .norm t h
  | .region _ ops d, Q, t, h => if d = true then adr P ops ops.toList (Q .norm) t h else aops P ops ops.toList (Q .norm) t h
  | .seq a b, Q, t, h => aw P n0 a (thn (fun t1 h1 => ∃ t2 h2, Weak n0 t1 h1 t2 h2 ∧ aw P n0 b Q t2 h2) Q) t h
  | .cond c a b, Q, t, h => match get t c with
    | some (.bool p) => if p = true then aw P n0 a Q t h else aw P n0 b Q t h
    | _ => False
  | .block id b, Q, t, h => aw P n0 b (inb id Q) t h
  | .loop b, Q, t, h => ∃ n t' h', Weak n0 t h t' h' ∧ lp n0 (fun K => aw P n0 b (thn K Q)) n t' h'
  | .exit id, Q, t, h => Q (.exit id) t h
  | .ret, Q, t, h => Q .ret t h
  | .scope b, Q, t, h => aw P n0 b Q t h
  | _, _, _, _ => False

def chk (P : Program) (N : Nat) : Code → Bool
  | .region _ ops d => ops.toList.all (fun o => match o.dst with
    | some k => decide (k < N)
    | none => true) && (!d || okDraw P ops)
  | .seq a b => chk P N a && chk P N b
  | .cond _ a b => chk P N a && chk P N b
  | .block _ b => chk P N b
  | .loop b => chk P N b
  | .scope b => chk P N b
  | _ => true

/-- The model's side of a condition on the engine's states. -/
def Qh (B : Base) (N : Nat) (Q : X → Tm → List Blk → Prop) : Exit → Act → World → Prop
  | .normal, a, w => ∃ t h, Q .norm t h ∧ Rs B N t h a w
  | .exit id, a, w => ∃ t h, Q (.exit id) t h ∧ Rs B N t h a w
  | .ret, a, w => ∃ t h, Q .ret t h ∧ Rs B N t h a w
  | _, _, _ => False

theorem exists_least (p : Nat → Prop) (h : ∃ n, p n) : ∃ n, p n ∧ ∀ m, p m → n ≤ m := by
  obtain ⟨n, hn⟩ := h
  induction n using Nat.strongRecOn with
  | _ n ih =>
    by_cases hm : ∃ m, m < n ∧ p m
    · obtain ⟨m, h1, h2⟩ := hm
      exact ih m h1 h2
    · exact ⟨n, hn, fun m hpm => by
        rcases Nat.lt_or_ge m n with q | q
        · exact absurd ⟨m, q, hpm⟩ hm
        · exact q⟩

noncomputable def least (p : Nat → Prop) (h : ∃ n, p n) : Nat := Classical.choose (exists_least p h)
theorem least_spec (p : Nat → Prop) (h : ∃ n, p n) : p (least p h) := (Classical.choose_spec (exists_least p h)).1
theorem least_le (p : Nat → Prop) (h : ∃ n, p n) {m : Nat} (hm : p m) : least p h ≤ m := (Classical.choose_spec (exists_least p h)).2 m hm

section
variable {P : Program} {B : Base} {N : Nat}

theorem aw_sound {n0 : Nat} (hm : P.follows .mixedOrders = true) (hB : B.α0.length ≤ n0) : ∀ (c : Code) (Q : X → Tm → List Blk → Prop) (t : Tm) (h : List Blk) (a : Act) (w : World), chk P N c = true → aw P n0 c Q t h → Rs B N t h a w → c.wp P (Qh B N Q) a w
  | .skip, Q, t, h, a, w, _, ha, r => wp_skip ⟨t, h, ha, r⟩
  | .label _, Q, t, h, a, w, _, ha, r => wp_label ⟨t, h, ha, r⟩
  | .region id ops d, Q, t, h, a, w, hc, ha, r => by
    simp only [chk, Bool.and_eq_true, List.all_eq_true] at hc
    have hd : ∀ (o : Oper), o ∈ ops.toList → ∀ k, o.dst = some k → k < N := fun o ho k hk => by
      have := hc.1 o ho
      rw [hk] at this
      simpa using this
    simp only [aw] at ha
    cases d with
    | true =>
      simp only [if_true] at ha
      have hok : okDraw P ops = true := by simpa using hc.2
      exact adr_sound hm hok (fun t h a w q r => ⟨t, h, q, r⟩) (fun j o ho k hk => hd o (by simpa using Array.mem_of_getElem? ho) k hk) ha r
    | false =>
      simp only [Bool.false_eq_true, if_false] at ha
      exact wp_region_list (aops_sound (fun t h a w q r => ⟨t, h, q, r⟩) ops.toList t h a w hd ha r)
  | .seq x y, Q, t, h, a, w, hc, ha, r => by
    simp only [chk, Bool.and_eq_true] at hc
    refine wp_seq (wp_mono (aw_sound hm hB x _ t h a w hc.1 ha r) fun e a' w' hq => ?_)
    cases e <;> simp only [Qh, thn, Exit.then] at hq ⊢
    · obtain ⟨t', h', ⟨t2, h2, hw, q⟩, r'⟩ := hq
      exact aw_sound hm hB y Q t2 h2 a' w' hc.2 q (hw B N a' w' hB r')
    · exact hq
    · exact hq
  | .cond c x y, Q, t, h, a, w, hc, ha, r => by
    simp only [chk, Bool.and_eq_true] at hc
    simp only [aw] at ha
    split at ha
    · rename_i p hp
      have hv : a.eval c = .bool p := by
        obtain ⟨α, S, r⟩ := r
        exact (r.get hp).bool_inv
      split at ha
      · rename_i hpt
        subst hpt
        exact wp_cond_true hv (aw_sound hm hB x Q t h a w hc.1 ha r)
      · rename_i hpf
        have : p = false := by simpa using hpf
        subst this
        exact wp_cond_false hv (aw_sound hm hB y Q t h a w hc.2 ha r)
    · exact ha.elim
  | .block id x, Q, t, h, a, w, hc, ha, r => by
    simp only [chk] at hc
    refine wp_block (wp_mono (aw_sound hm hB x _ t h a w hc ha r) fun e a' w' hq => ?_)
    cases e with
    | exit id' =>
      obtain ⟨t', h', q, r'⟩ := hq
      simp only [inb] at q
      simp only [Exit.inBlock]
      split at q
      · rename_i he; rw [if_pos he]; exact ⟨t', h', q, r'⟩
      · rename_i he; rw [if_neg he]; exact ⟨t', h', q, r'⟩
    | normal => exact hq
    | ret => exact hq
    | _ => exact hq.elim
  | .loop x, Q, t, h, a, w, hc, ha, r => by
    simp only [chk] at hc
    simp only [aw] at ha
    obtain ⟨n, t', h', hw, hl⟩ := ha
    classical
    let I : Act → World → Prop := fun a w => ∃ n t h, lp n0 (fun K => aw P n0 x (thn K Q)) n t h ∧ Rs B N t h a w
    let μ : Act → World → Nat := fun a w => if hI : I a w then least _ hI else 0
    refine wp_loop I μ ⟨n, t', h', hl, hw B N a w hB r⟩ fun a1 w1 hI => ?_
    have hμ : μ a1 w1 = least _ hI := by simp only [μ]; rw [dif_pos hI]
    have hspec := least_spec _ hI
    generalize hk : least _ hI = k at hμ hspec
    cases k with
    | zero =>
      obtain ⟨t1, h1, hf, _⟩ := hspec
      exact hf.elim
    | succ k =>
      obtain ⟨t1, h1, hf, r1⟩ := hspec
      refine wp_mono (aw_sound hm hB x _ t1 h1 a1 w1 hc hf r1) fun e a' w' hq => ?_
      cases e <;> simp only [Qh, thn, Exit.then] at hq ⊢
      · obtain ⟨t2, h2, ⟨t3, h3, hw3, hl3⟩, r2⟩ := hq
        have hI' : I a' w' := ⟨k, t3, h3, hl3, hw3 B N a' w' hB r2⟩
        refine ⟨hI', ?_⟩
        have hle : least _ hI' ≤ k := least_le _ hI' ⟨t3, h3, hl3, hw3 B N a' w' hB r2⟩
        have : μ a' w' = least _ hI' := by simp only [μ]; rw [dif_pos hI']
        omega
      · exact hq
      · exact hq
  | .exit id, Q, t, h, a, w, _, ha, r => wp_exit ⟨t, h, ha, r⟩
  | .ret, Q, t, h, a, w, _, ha, r => wp_ret ⟨t, h, ha, r⟩
  | .scope x, Q, t, h, a, w, hc, ha, r => by
    simp only [chk] at hc
    simp only [aw] at ha
    refine wp_scope_straight (wp_mono (aw_sound hm hB x Q t h a w hc ha r) fun e a' w' hq => ?_)
    cases e with
    | goto l => exact hq.elim
    | _ => exact hq
  | .goto _, Q, t, h, a, w, _, ha, r => ha.elim
  | .rangeFunc .., Q, t, h, a, w, _, ha, r => ha.elim
  | .refuse _, Q, t, h, a, w, _, ha, r => ha.elim

end
end Go.Ab
