/- A region whose order is open, carried out in its text's order: sound for every order. -/
import Derived.Test.YtamckclacocifaaAb19
namespace Go.Ab

section
variable {P : Program} {ops : Array Oper}

theorem depsOf_sound (i : Nat) : ∀ (l : List Oper) (acc : List Bool), (∀ j, l[j]? = ops[acc.length + j]?) → (∀ j : Nat, acc.getD j false = true → Waits ops i j) → ∀ j : Nat, (depsOf i l acc).getD j false = true → Waits ops i j
  | [], acc, _, h, j, hj => h j hj
  | o :: os, acc, hl, h, j, hj => by
    have h0 : ops[acc.length]? = some o := by simpa using (hl 0).symm
    refine depsOf_sound i os _ (fun k => ?_) (fun k hk => ?_) j hj
    · have := hl (k + 1)
      simp only [List.getElem?_cons_succ] at this
      rw [this]
      congr 1
      simp
      omega
    · by_cases hlt : k < acc.length
      · apply h
        rw [← hk]
        simp [List.getElem?_append_left hlt]
      · by_cases hke : k = acc.length
        · subst hke
          simp only [List.getD_eq_getElem?_getD, List.getElem?_append_right (Nat.le_refl _), Nat.sub_self, List.getElem?_cons_zero, Option.getD_some] at hk
          obtain ⟨e, he, hb⟩ := Array.any_eq_true'.1 hk
          simp only [Bool.and_eq_true, Bool.or_eq_true, beq_iff_eq] at hb
          rcases hb.2 with hx | hx
          · exact .base _ o e h0 he hb.1 hx
          · exact .step _ o e h0 he hb.1 (h _ (by rw [List.getD_eq_getElem?_getD]; exact hx))
        · rw [List.getD_eq_getElem?_getD, List.getElem?_eq_none (by simp; omega)] at hk
          cases hk

/-- Of the operations the first k have been carried out. -/
def FirstK (ops : Array Oper) (k : Nat) (listed : Array Bool) : Prop := listed.size = ops.size ∧ ∀ j, j < ops.size → listed[j]? = some (decide (j < k))

theorem FirstK.getD {k j : Nat} {listed : Array Bool} (h : FirstK ops k listed) (hj : j < ops.size) (d : Bool) : listed.getD j d = decide (j < k) := by
  simp [Array.getD_eq_getD_getElem?, h.2 j hj]

theorem FirstK.set {k : Nat} {listed : Array Bool} (h : FirstK ops k listed) (hk : k < ops.size) : FirstK ops (k + 1) (listed.setIfInBounds k true) := by
  refine ⟨by simp [h.1], fun j hj => ?_⟩
  by_cases hjk : k = j
  · subst hjk
    simp [h.1, hk]
  · rw [Array.getElem?_setIfInBounds_ne hjk, h.2 j hj]
    simp
    omega

theorem okDraw_spec (h : okDraw P ops = true) : (∀ (j : Nat) (o : Oper), ops[j]? = some o → cls P o.op ≤ 2) ∧ (∀ (i : Nat) (o : Oper), ops[i]? = some o → (∀ e ∈ o.after, Region.binds .any e = true → e.on < i)) ∧
    ∀ (i : Nat) (o : Oper), ops[i]? = some o → ∀ (j : Nat) (oj : Oper), ops[j]? = some oj → i < j → ¬ Waits ops i j → commB P ops o oj = true := by
  unfold okDraw at h
  simp only [Bool.and_eq_true, List.all_eq_true, decide_eq_true_eq] at h
  obtain ⟨h1, h2⟩ := h
  have hz : ∀ (i : Nat) (o : Oper), ops[i]? = some o → (o, i) ∈ ops.toList.zipIdx := fun i o ho => by
    rw [List.mem_zipIdx_iff_getElem?]
    simpa using ho
  refine ⟨fun j o ho => h1 o (by simpa using Array.mem_of_getElem? ho), fun i o ho e he hb => ?_, fun i o ho j oj hj hij hw => ?_⟩
  · have := (h2 (o, i) (hz i o ho)).1
    have := Array.all_eq_true_iff_forall_mem.1 this e he
    simp only [Bool.or_eq_true, Bool.not_eq_true', decide_eq_true_eq] at this
    rcases this with q | q
    · rw [hb] at q; cases q
    · exact q
  · have := (h2 (o, i) (hz i o ho)).2
    unfold pairsOk at this
    have hjs : j < ops.size := (Array.getElem?_eq_some_iff.1 hj).1
    have := List.all_eq_true.1 this j (List.mem_range.2 hjs)
    rw [hj] at this
    simp only [Bool.or_eq_true, decide_eq_true_eq] at this
    rcases this with q | q | q
    · omega
    · exact q
    · exact absurd (depsOf_sound (ops := ops) i ops.toList [] (by simp) (by simp) j q) hw

theorem ready_nil {listed : Array Bool} (h : FirstK ops ops.size listed) : Region.ready .any ops listed = [] := by
  rw [List.eq_nil_iff_forall_not_mem]
  intro j hj
  obtain ⟨hun, o, ho, _⟩ := mem_ready.1 hj
  have hjs : j < ops.size := (Array.getElem?_eq_some_iff.1 ho).1
  rw [h.getD hjs] at hun
  simp at hun
  omega

theorem anyA_lex (hok : okDraw P ops = true) {Q : Tm → List Blk → Prop} : ∀ (l : List Oper) (k : Nat) (listed : Array Bool) (t : Tm) (h : List Blk), k + l.length = ops.size → (∀ j, l[j]? = ops[k + j]?) → FirstK ops k listed →
    adr P ops l Q t h → anyA P ops Q l.length listed t h
  | [], k, listed, t, h, hk, _, hf, ha => by
    have : k = ops.size := by simpa using hk
    subst this
    exact ⟨ready_nil hf, ha⟩
  | o :: l, k, listed, t, h, hk, hl, hf, ha => by
    obtain ⟨k1, k2, k3⟩ := okDraw_spec hok
    have h0 : ops[k]? = some o := by simpa using (hl 0).symm
    have hks : k < ops.size := (Array.getElem?_eq_some_iff.1 h0).1
    have hcl : Closed ops listed := fun j oj hj hlj e he hb => by
      have hjs : j < ops.size := (Array.getElem?_eq_some_iff.1 hj).1
      rw [hf.getD hjs] at hlj
      have := k2 j oj hj e he hb
      rw [hf.getD (by omega)]
      simp at hlj ⊢
      omega
    have hready : k ∈ Region.ready .any ops listed := mem_ready.2 ⟨by rw [hf.getD hks]; simp, o, h0, fun e he hb => by
      have := k2 k o h0 e he hb
      rw [hf.getD (by omega)]
      simpa using this⟩
    have hfree : ∀ (j : Nat) (oj : Oper), ops[j]? = some oj → j ≠ k → listed.getD j true = false → ¬ Waits ops k j → commB P ops o oj = true := fun j oj hj hne hun hw => by
      have hjs : j < ops.size := (Array.getElem?_eq_some_iff.1 hj).1
      rw [hf.getD hjs] at hun
      simp at hun
      exact k3 k o h0 j oj hj (by omega) hw
    have hrest : ∀ j, l[j]? = ops[k + 1 + j]? := fun j => by
      have := hl (j + 1)
      simp only [List.getElem?_cons_succ] at this
      rw [this]
      congr 1
      omega
    unfold adr at ha
    have out : ∃ x h', OutD P ops o t h x h' ∧ adr P ops l Q (put t o.dst x) h' := by
      unfold OutD
      split at ha
      · exact ha.elim
      · split at ha
        · rename_i hbt
          obtain ⟨x, h', e1, e2⟩ := aopD_out ha
          exact ⟨x, h', by rw [if_pos hbt]; exact e1, e2⟩
        · rename_i hbf
          exact ⟨some .undef, h, by rw [if_neg hbf]; exact ⟨rfl, rfl⟩, ha⟩
    obtain ⟨x, h', e1, e2⟩ := out
    exact anyA_first h0 k1 l.length listed t h h' x hcl hfree hready e1 (anyA_lex hok l (k + 1) _ _ _ (by simp at hk; omega) hrest (hf.set hks) e2)

section
variable {B : Base} {N : Nat} {w : World} {a : Act} {t : Tm} {h : List Blk}

/-- A contract over data alone, met over any memory. -/
theorem PSpec.lift {f : FuncId} {ds : List D} {r : D} (hp : PSpec P f ds r) (hd : ∀ d ∈ ds, Bd 0 d) (hr : Bd 0 r) (h : List Blk) : Spec P f ds h fun r' h' => r' = r ∧ h' = h := by
  refine ⟨hp.1, ?_⟩
  intro B α S w args m ra
  have mr : Mem ⟨w, fun _ => False, S, []⟩ [] S [] w := by
    refine ⟨⟨rfl, by simp, by simp, fun b hb => ?_, m.rep.lt⟩, ⟨rfl, rfl, rfl, Nat.le_refl _, fun _ _ _ => rfl, fun b hb => ?_, fun _ hb => hb, fun _ hb => .inl hb, Adv.refl _⟩⟩
    · obtain ⟨id, a, k, h1, _⟩ := hb; simp at h1
    · obtain ⟨id, a, k, h1, _⟩ := hb; simp at h1
  refine (hp.2 _ [] S w args mr ⟨ra.1, fun i v d e1 e2 => (ra.2 i v d e1 e2).agree (n := 0) (by simp) (hd d (List.mem_of_getElem? e2))⟩).mono ?_
  rintro e w' ⟨v, r', h', α', S', rfl, rfl, m', nx, rv⟩
  have hsame : ∀ b, b < w.heap.size → w'.heap[b]? = w.heap[b]? := fun b hb => m'.tr.frame b hb (fun x => x)
  have hS' : ∀ b, S' b → S b ∨ w.heap.size ≤ b := fun b hb => by
    rcases m'.tr.s1 b hb with q | q | q
    · exact .inl q
    · exact q.elim
    · exact .inr q
  have hsz : w.heap.size ≤ w'.heap.size := m'.tr.size
  have nx2 : Nx α S w α S' w' := ⟨Adv.refl _, nx.sub, fun b hb => hsame b (m.rep.lt b hb)⟩
  refine ⟨v, r', h, α, S', rfl, ⟨rfl, rfl⟩, ⟨⟨m.rep.len, fun id k a' e1 e2 => ?_, m.rep.inj, fun b ho hs => ?_, m'.rep.lt⟩, ⟨m'.tr.os.trans m.tr.os, m'.tr.tape.trans m.tr.tape, m'.tr.output.trans m.tr.output, Nat.le_trans m.tr.size hsz,
    fun b x y => (hsame b (Nat.lt_of_lt_of_le x m.tr.size)).trans (m.tr.frame b x y), m.tr.own, fun b hb => nx.sub b (m.tr.s0 b hb), fun b hb => ?_, m.tr.adv⟩⟩, nx2, rv.agree (n := 0) (by simp) hr⟩
  · have rr := m.rep.rep id k a' e1 e2
    cases hk : k.live with
    | false => cases k <;> first | trivial | cases hk
    | true => exact rr.mono nx2.adv nx2.sub nx2.same (fun b hb => hsame b (rr.vblock_lt hk hb))
  · obtain ⟨id, a', k, g1, g2, g3, g4⟩ := ho
    have hlt := (m.rep.rep id k a' g1 g3).vblock_lt g2 g4
    rcases hS' b hs with q | q
    · exact m.rep.sep b ⟨id, a', k, g1, g2, g3, g4⟩ q
    · omega
  · rcases hS' b hb with q | q
    · exact m.tr.s1 b q
    · exact .inr (.inr (Nat.le_trans m.tr.size q))

theorem Oev_sound {o : Oper} {x : Option D} {h' : List Blk} {Q : Exit → Act → World → Prop} {K' : Act → World → Prop} (hd : ∀ k, o.dst = some k → k < N) (ho : Oev P o t h x h') (r : Rs B N t h a w)
    (hK : ∀ a' w', Rs B N (put t o.dst x) h' a' w' → K' a' w') : o.wp P a w K' Q := by
  obtain ⟨α, S, r⟩ := r
  unfold Oev at ho
  split at ho
  · rename_i f args hc
    obtain ⟨fid, fd, cd, ds, rr, h1, h2, h4, h5, h6, h7, h8⟩ := ho
    subst h7 h8
    exact aop_sound (K := fun x' h'' => x' = some rr ∧ h'' = h') hd (by
      unfold aop
      rw [hc]
      simp only [h1, h2]
      exact (h4.lift h5 h6 h').mono fun r' h'' ⟨e1, e2⟩ => by subst e1 e2; exact ⟨rfl, rfl⟩) r (fun x' h'' α' S' a' w' ⟨e1, e2⟩ r' => by subst e1 e2; exact hK a' w' ⟨α', S', r'⟩)
  · split at ho
    · obtain ⟨e, d, hev, hx⟩ := ho
      subst e hx
      obtain ⟨v, hv, hr⟩ := evR_sound hev (ρ := a.eval) (fun x y e => r.get e) r.mem.rep
      unfold Oper.wp
      rw [hv]
      exact hK _ w ⟨α, S, r.put r.mem (Nx.refl _ _ _) hd fun d' e => by cases e; exact hr⟩
    · obtain ⟨n, w', α', S', hrun, m', nx, hg⟩ := evW_sound ho (ρ := a.eval) (fun x y e => r.get e) r.mem
      unfold Oper.wp
      rw [hrun]
      cases n with
      | value v =>
        cases x with
        | some d => exact hK _ w' ⟨α', S', r.put m' nx hd fun d' e => by cases e; exact hg⟩
        | none => exact hg.elim
      | skip =>
        cases x with
        | none => exact hK _ w' ⟨α', S', r.put m' nx hd fun d' e => by cases e⟩
        | some d => exact hg.elim
      | _ => exact hg.elim

theorem anyA_sound {K : Tm → List Blk → Prop} {Q : Exit → Act → World → Prop} (hK : ∀ t h a w, K t h → Rs B N t h a w → Q .normal a w) (hd : ∀ (j : Nat) (o : Oper), ops[j]? = some o → ∀ k, o.dst = some k → k < N) :
    ∀ (fuel : Nat) (listed : Array Bool) (t : Tm) (h : List Blk) (a : Act) (w : World), anyA P ops K fuel listed t h → Rs B N t h a w → wpAny P .any ops Q fuel listed a w
  | 0, listed, t, h, a, w, ha, r => ⟨ha.1, hK t h a w ha.2 r⟩
  | fuel + 1, listed, t, h, a, w, ha, r => by
    refine ⟨fun h0 => hK t h a w (ha.1 h0) r, fun i hi => ?_⟩
    have hs := ha.2 i hi
    unfold stepA at hs
    unfold wpOp
    cases hoi : ops[i]? with
    | none =>
      rw [hoi] at hs
      exact anyA_sound hK hd fuel _ t h a w hs r
    | some o =>
      rw [hoi] at hs
      obtain ⟨x, h', ho, hs⟩ := hs
      simp only
      unfold OutD at ho
      split at ho
      · exact ho.elim
      · rename_i b hb
        have hw : Region.wanted o (yielded ops a.tmps) = b := by obtain ⟨α, S, r⟩ := r; exact r.wanted hb
        rw [hw]
        split at ho
        · rename_i hbt
          subst hbt
          simp only [if_true]
          exact .inl (Oev_sound (fun k e => hd i o hoi k e) ho r fun a' w' r' => anyA_sound hK hd fuel _ _ _ a' w' hs r')
        · rename_i hbf
          simp only [hbf]
          obtain ⟨rfl, rfl⟩ := ho
          obtain ⟨α, S, r⟩ := r
          exact anyA_sound hK hd fuel _ _ _ _ w hs ⟨α, S, r.put r.mem (Nx.refl _ _ _) (fun k e => hd i o hoi k e) (fun d e => by cases e; exact .undef)⟩

theorem adr_sound (hm : P.follows .mixedOrders = true) (hok : okDraw P ops = true) {id : Nat} {K : Tm → List Blk → Prop} {Q : Exit → Act → World → Prop} (hK : ∀ t h a w, K t h → Rs B N t h a w → Q .normal a w)
    (hd : ∀ (j : Nat) (o : Oper), ops[j]? = some o → ∀ k, o.dst = some k → k < N) (ha : adr P ops ops.toList K t h) (r : Rs B N t h a w) : (Code.region id ops true).wp P Q a w := by
  refine wp_region_any hm (anyA_sound hK hd ops.size (Array.replicate ops.size false) t h a _ ?_ ?_)
  · have := anyA_lex hok ops.toList 0 (Array.replicate ops.size false) t h (by simp) (by simp) ⟨by simp, fun j hj => by simp [hj]⟩ ha
    simpa using this
  · obtain ⟨α, S, r⟩ := r
    obtain ⟨md, nxd⟩ := r.mem.drew
    exact ⟨α, S, md, fun i d e => let ⟨v, h1, h2⟩ := r.tmp i d e; ⟨v, h1, nxd.rep h2⟩, r.size, r.defers⟩

end
end
end Go.Ab
