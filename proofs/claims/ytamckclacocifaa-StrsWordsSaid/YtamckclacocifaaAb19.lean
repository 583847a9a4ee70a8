/- The proof: any order of such a region goes as its text's order. -/
import Derived.Test.YtamckclacocifaaAb18
namespace Go.Ab

section
variable {P : Program} {ops : Array Oper}

theorem calleeOf_operands {op : Op} {f : Operand} {args : List Operand} (h : calleeOf op = some (f, args)) : f ∈ op.operands ∧ ∀ x ∈ args, x ∈ op.operands := by
  unfold calleeOf at h
  split at h
  · cases h
    refine ⟨by simp [Op.operands, Call.operands], fun x hx => ?_⟩
    simp only [Op.operands, Call.operands, Array.mem_append]
    exact .inr (by simpa using hx)
  · cases h

theorem Oev_congr {o : Oper} {t t' : Tm} {h : List Blk} {x : Option D} {h' : List Blk} (hg : ∀ y ∈ o.op.operands, get t y = get t' y) (ho : Oev P o t h x h') : Oev P o t' h x h' := by
  unfold Oev at *
  split at ho
  · rename_i f args hc
    obtain ⟨fid, fd, cd, ds, r, h1, h2, rest⟩ := ho
    obtain ⟨m1, m2⟩ := calleeOf_operands hc
    exact ⟨fid, fd, cd, ds, r, by rw [← hg f m1]; exact h1, by rw [← mapG_congr args fun y hy => hg y (m2 y hy)]; exact h2, rest⟩
  · split at ho
    · rename_i hcl
      rw [if_pos hcl]
      obtain ⟨e, d, hd, hx⟩ := ho
      exact ⟨e, d, by rw [← evR_congr hg]; exact hd, hx⟩
    · rename_i hcl
      rw [if_neg hcl, ← evW_congr hg]
      exact ho

theorem get_put {t : Tm} {dst : Option Nat} {v : Option D} {o : Oper} (h : ∀ d, dst = some d → d ∉ o.looksAt ops) : ∀ y ∈ o.op.operands, get (put t dst v) y = get t y := by
  intro y hy
  cases y with
  | tmp i =>
    cases dst with
    | none => rfl
    | some k =>
      have hne : i ≠ k := by
        rintro rfl
        refine h i rfl (List.mem_append_left _ (List.mem_filterMap.2 ⟨.tmp i, by simpa using hy, rfl⟩))
      simp only [get, put]
      rw [if_neg hne]
  | _ => rfl

theorem wantA_put {t : Tm} {dst : Option Nat} {v : Option D} {o : Oper} (h : ∀ d, dst = some d → d ∉ o.looksAt ops) : wantA ops (put t dst v) o = wantA ops t o := by
  unfold wantA
  split
  · rfl
  · rename_i j want hg
    split
    · rename_i k hk
      cases dst with
      | none => rfl
      | some d =>
        have hne : k ≠ d := by
          rintro rfl
          refine h k rfl (List.mem_append_right _ ?_)
          rw [hg]
          simp only [hk]
          simp
        simp only [put]
        rw [if_neg hne]
    · rfl

theorem OutD_put {t : Tm} {dst : Option Nat} {v : Option D} {o : Oper} {h h' : List Blk} {x : Option D} (ha : ∀ d, dst = some d → d ∉ o.looksAt ops) :
    OutD P ops o (put t dst v) h x h' ↔ OutD P ops o t h x h' := by
  unfold OutD
  rw [wantA_put ha]
  split
  · exact Iff.rfl
  · split
    · exact ⟨Oev_congr (get_put ha), Oev_congr fun y hy => (get_put ha y hy).symm⟩
    · exact Iff.rfl

/-- An operation that touches slots alone. -/
theorem OutD_pure {o : Oper} {t : Tm} {h h' : List Blk} {x : Option D} (hc : cls P o.op = 0) (ho : OutD P ops o t h x h') : h' = h ∧ ∀ h2, OutD P ops o t h2 x h2 := by
  unfold OutD at *
  split at ho
  · exact ho.elim
  · split at ho
    · rename_i b hbt
      subst hbt
      simp only [if_true]
      unfold Oev at *
      split at ho
      · obtain ⟨fid, fd, cd, ds, r, h1, h2, h4, h5, h6, h7, h8⟩ := ho
        exact ⟨h8, fun h2' => ⟨fid, fd, cd, ds, r, h1, h2, h4, h5, h6, h7, rfl⟩⟩
      · rw [if_pos (by omega)] at ho
        obtain ⟨e, d, hd, hx⟩ := ho
        refine ⟨e, fun h2 => ?_⟩
        rw [if_pos (by omega)]
        refine ⟨rfl, d, ?_, hx⟩
        rw [← hd]
        clear hd
        generalize o.op = op at hc
        unfold evR
        split <;> first
          | rfl
          | (simp [cls] at hc; done)
          | (simp only [cls] at hc; split at hc <;> omega)
    · rename_i b hb
      obtain ⟨rfl, rfl⟩ := ho
      exact ⟨rfl, fun h2 => by rw [if_neg hb]; exact ⟨rfl, rfl⟩⟩

theorem OutD_reads {o : Oper} {t : Tm} {h h' : List Blk} {x : Option D} (hc : cls P o.op ≤ 1) (ho : OutD P ops o t h x h') : h' = h := by
  unfold OutD at ho
  split at ho
  · exact ho.elim
  · split at ho
    · unfold Oev at ho
      split at ho
      · obtain ⟨fid, fd, cd, ds, r, h1, h2, h4, h5, h6, h7, h8⟩ := ho
        exact h8
      · rw [if_pos hc] at ho
        exact ho.1
    · exact ho.2

theorem put_comm (t : Tm) {x y : Option Nat} (v u : Option D) (h : ∀ d, x = some d → y ≠ some d) : put (put t x v) y u = put (put t y u) x v := by
  cases x with
  | none => rfl
  | some d =>
    cases y with
    | none => rfl
    | some e =>
      have hne : e ≠ d := fun e' => h d rfl (by rw [e'])
      funext i
      simp only [put]
      by_cases h1 : i = e
      · subst h1
        rw [if_pos rfl, if_neg hne, if_pos rfl]
      · rw [if_neg h1]
        by_cases h2 : i = d
        · rw [if_pos h2, if_pos h2]
        · rw [if_neg h2, if_neg h2, if_neg h1]

theorem commB_spec {x y : Oper} (h : commB P ops x y = true) : x.apart ops y = true ∧ (cls P x.op = 2 → cls P y.op = 0) ∧ (cls P y.op = 2 → cls P x.op = 0) := by
  unfold commB at h
  simp only [Bool.and_eq_true, Bool.not_eq_true', Bool.and_eq_false_iff, beq_eq_false_iff_ne, decide_eq_false_iff_not] at h
  refine ⟨h.1.1, fun e => ?_, fun e => ?_⟩
  · rcases h.1.2 with q | q
    · exact absurd e q
    · omega
  · rcases h.2 with q | q
    · exact absurd e q
    · omega

/-- Two operations that are not ordered. -/
theorem comm_step {oi oj : Oper} (hc : commB P ops oi oj = true) (hci : cls P oi.op ≤ 2) (hcj : cls P oj.op ≤ 2) {t : Tm} {h hi hj : List Blk} {xi xj : Option D}
    (h1 : OutD P ops oi t h xi hi) (h2 : OutD P ops oj (put t oi.dst xi) hi xj hj) :
    ∃ h', OutD P ops oj t h xj h' ∧ OutD P ops oi (put t oj.dst xj) h' xi hj ∧ put (put t oj.dst xj) oi.dst xi = put (put t oi.dst xi) oj.dst xj := by
  obtain ⟨ha, c1, c2⟩ := commB_spec hc
  obtain ⟨a1, a2, a3⟩ := Oper.apart_spec ha
  rw [OutD_put a1] at h2
  have hp : put (put t oj.dst xj) oi.dst xi = put (put t oi.dst xi) oj.dst xj := (put_comm t xi xj a2).symm
  by_cases hi2 : cls P oi.op = 2
  · obtain ⟨rfl, hall⟩ := OutD_pure (c1 hi2) h2
    exact ⟨h, hall h, by rw [OutD_put a3]; exact h1, hp⟩
  · have := OutD_reads (by omega) h1
    subst this
    by_cases hj2 : cls P oj.op = 2
    · obtain ⟨_, hall⟩ := OutD_pure (c2 hj2) h1
      exact ⟨hj, h2, by rw [OutD_put a3]; exact hall hj, hp⟩
    · have := OutD_reads (by omega) h2
      subst this
      exact ⟨hj, h2, by rw [OutD_put a3]; exact h1, hp⟩

def stepA (P : Program) (ops : Array Oper) (i : Nat) (K : Tm → List Blk → Prop) (t : Tm) (h : List Blk) : Prop :=
  match ops[i]? with
  | none => K t h
  | some o => ∃ x h', OutD P ops o t h x h' ∧ K (put t o.dst x) h'

theorem stepA_mono {i : Nat} {K K' : Tm → List Blk → Prop} {t : Tm} {h : List Blk} (hk : ∀ t h, K t h → K' t h) (hs : stepA P ops i K t h) : stepA P ops i K' t h := by
  unfold stepA at *
  split
  · rename_i e; rw [e] at hs; exact hk _ _ hs
  · rename_i o e
    rw [e] at hs
    obtain ⟨x, h', h1, h2⟩ := hs
    exact ⟨x, h', h1, hk _ _ h2⟩

def anyA (P : Program) (ops : Array Oper) (Q : Tm → List Blk → Prop) : Nat → Array Bool → Tm → List Blk → Prop
  | 0, listed, t, h => Region.ready .any ops listed = [] ∧ Q t h
  | fuel + 1, listed, t, h => (Region.ready .any ops listed = [] → Q t h) ∧ ∀ i ∈ Region.ready .any ops listed, stepA P ops i (anyA P ops Q fuel (listed.setIfInBounds i true)) t h

/-- Number j waits for number i, through others too. -/
inductive Waits (ops : Array Oper) (i : Nat) : Nat → Prop where
  | base (j : Nat) (o : Oper) (e : Edge) (h : ops[j]? = some o) (he : e ∈ o.after) (hb : Region.binds .any e = true) (hi : e.on = i) : Waits ops i j
  | step (j : Nat) (o : Oper) (e : Edge) (h : ops[j]? = some o) (he : e ∈ o.after) (hb : Region.binds .any e = true) (hi : Waits ops i e.on) : Waits ops i j

/-- What has been carried out holds with each operation those that it waits for. -/
def Closed (ops : Array Oper) (listed : Array Bool) : Prop :=
  ∀ (j : Nat) (o : Oper), ops[j]? = some o → listed.getD j false = true → ∀ e ∈ o.after, Region.binds .any e = true → listed.getD e.on false = true

theorem Waits.listed {i j : Nat} {listed : Array Bool} (h : Waits ops i j) (hc : Closed ops listed) (hj : listed.getD j false = true) : listed.getD i false = true := by
  induction h with
  | base j o e h he hb hi => subst hi; exact hc j o h hj e he hb
  | step j o e h he hb _ ih => exact ih (hc j o h hj e he hb)

theorem getD_false_of_true {listed : Array Bool} {i : Nat} (h : listed.getD i true = false) : listed.getD i false = false := by
  rcases Nat.lt_or_ge i listed.size with h' | h'
  · simp [h'] at h ⊢; exact h
  · simp [Array.getElem?_eq_none h'] at h

theorem Closed.set {listed : Array Bool} {i : Nat} (hc : Closed ops listed) (hi : i ∈ Region.ready .any ops listed) : Closed ops (listed.setIfInBounds i true) := by
  obtain ⟨hun, oi, hoi, hall⟩ := mem_ready.1 hi
  intro j o hj hl e he hb
  by_cases hij : i = j
  · subst hij
    rw [hoi] at hj
    cases hj
    exact getD_set_true (hall e he hb)
  · rw [getD_set_ne false hij] at hl
    exact getD_set_true (hc j o hj hl e he hb)

/-- An operation that may come up now may be taken first. -/
theorem anyA_first {Q : Tm → List Blk → Prop} {i : Nat} {oi : Oper} (hi : ops[i]? = some oi) (hcls : ∀ (j : Nat) (o : Oper), ops[j]? = some o → cls P o.op ≤ 2) : ∀ (fuel : Nat) (listed : Array Bool) (t : Tm) (h hn : List Blk) (x : Option D),
    Closed ops listed → (∀ (j : Nat) (oj : Oper), ops[j]? = some oj → j ≠ i → listed.getD j true = false → ¬ Waits ops i j → commB P ops oi oj = true) → i ∈ Region.ready .any ops listed → OutD P ops oi t h x hn →
    anyA P ops Q fuel (listed.setIfInBounds i true) (put t oi.dst x) hn → anyA P ops Q (fuel + 1) listed t h
  | 0, listed, t, h, hn, x, _, _, hr, ho, H => by
    refine ⟨fun h0 => (by rw [h0] at hr; cases hr), fun j hj => ?_⟩
    by_cases hji : j = i
    · subst hji
      unfold stepA
      rw [hi]
      exact ⟨x, hn, ho, H⟩
    · have := ready_mono hj hji
      rw [H.1] at this
      cases this
  | fuel + 1, listed, t, h, hn, x, hc, hfree, hr, ho, H => by
    refine ⟨fun h0 => (by rw [h0] at hr; cases hr), fun j hj => ?_⟩
    by_cases hji : j = i
    · subst hji
      unfold stepA
      rw [hi]
      exact ⟨x, hn, ho, H⟩
    · have h1 := H.2 j (ready_mono hj hji)
      obtain ⟨hjun, oj, hoj, hall⟩ := mem_ready.1 hj
      have hnot : ¬ Waits ops i j := by
        intro hw
        have hun := getD_false_of_true (mem_ready.1 hr).1
        cases hw with
        | base _ o e h he hb hi' =>
          rw [hoj] at h; cases h
          have := hall e he hb
          rw [hi', hun] at this
          cases this
        | step _ o e h he hb hw' =>
          rw [hoj] at h; cases h
          have := hw'.listed hc (hall e he hb)
          rw [hun] at this
          cases this
      unfold stepA at h1 ⊢
      rw [hoj] at h1 ⊢
      obtain ⟨xj, hj', ho2, H2⟩ := h1
      obtain ⟨h', q1, q2, q3⟩ := comm_step (hfree j oj hoj hji hjun hnot) (hcls i oi hi) (hcls j oj hoj) ho ho2
      refine ⟨xj, h', q1, anyA_first hi hcls fuel (listed.setIfInBounds j true) _ h' hj' x (hc.set hj) (fun k ok hk hki hun hno => ?_) (ready_mono hr (Ne.symm hji)) q2 ?_⟩
      · refine hfree k ok hk hki ?_ hno
        by_cases hjk : j = k
        · subst hjk; exact hjun
        · rwa [getD_set_ne true hjk] at hun
      · rw [q3, Array.setIfInBounds_comm _ _ hji]
        exact H2

end
end Go.Ab
