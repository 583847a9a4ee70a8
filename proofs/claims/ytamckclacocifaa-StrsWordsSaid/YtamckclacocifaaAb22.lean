/- Contracts of functions out of their code; calls by contracts; loops; less said of a state. -/
import Derived.Test.YtamckclacocifaaAb21
namespace Go.Ab

/-- The parameters in their slots. -/
def args0 (k : Nat) : List D → Tm
  | [] => fun _ => none
  | d :: ds => fun i => if i = k then some d else args0 (k + 1) ds i

def tm : List (Nat × D) → Tm
  | [] => fun _ => none
  | (k, d) :: l => fun i => if i = k then some d else tm l i

def resV (P : Program) (t : Tm) (h : List Blk) : ResultVar → Option D
  | .tmp i => t i
  | .cell a ty => match t a with
    | some d => (match d with
      | .ptr _ _ => loadD P ty d h
      | _ => none)
    | none => none

def resL (P : Program) (t : Tm) (h : List Blk) : List ResultVar → Option (List D)
  | [] => some []
  | r :: rs => match resV P t h r with
    | none => none
    | some d => match resL P t h rs with
      | none => none
      | some ds => some (d :: ds)

/-- What is handed back. -/
def resD (P : Program) (rs : List ResultVar) (t : Tm) (h : List Blk) : Option D :=
  match resL P t h rs with
  | some [d] => some d
  | some ds => some (.tup ds)
  | none => none

/-- A result given up: nothing of the callee's memory is named any more. -/
def sealR (d : D) (h : List Blk) : Option (D × List Blk) :=
  match d with
  | .tup ds => if goodAll ds = true then (match sealGs ds h with
    | some (ds', h') => some (.tup ds', h')
    | none => none) else none
  | d => if d.good = true then sealG d h else none

/-- At a function's end, data handed back as they are. -/
def postH (P : Program) (rs : List ResultVar) (Q : D → List Blk → Prop) : X → Tm → List Blk → Prop
  | .exit _, _, _ => False
  | _, t, h => match resD P rs t h with
    | some d => Q d h
    | none => False

/-- At a function's end, data given up. -/
def postP (P : Program) (rs : List ResultVar) (Q : D → Prop) : X → Tm → List Blk → Prop
  | .exit _, _, _ => False
  | _, t, h => match resD P rs t h with
    | some d => match sealR d h with
      | some (d', _) => Q d'
      | none => False
    | none => False

section
variable {P : Program} {B : Base} {N : Nat}

theorem args0_get : ∀ (ds : List D) (k i : Nat) (d : D), args0 k ds i = some d → k ≤ i ∧ ds[i - k]? = some d
  | [], k, i, d, h => by cases h
  | x :: ds, k, i, d, h => by
    simp only [args0] at h
    split at h
    · rename_i hi
      cases h
      subst hi
      exact ⟨Nat.le_refl _, by simp⟩
    · rename_i hi
      obtain ⟨h1, h2⟩ := args0_get ds (k + 1) i d h
      refine ⟨by omega, ?_⟩
      rw [show i - k = (i - (k + 1)) + 1 by omega, List.getElem?_cons_succ]
      exact h2

/-- How the model reads one result. -/
def rvSem (tmps : Array Value) : ResultVar → Sem Value
  | .tmp t => pure (tmps.getD t undef)
  | .cell x t => do loadVar t (← asAddr (tmps.getD x undef))

theorem results_eq (fn : Func) (tmps : Array Value) : results fn tmps = (do
    let vs ← fn.results.mapM (rvSem tmps)
    pure (if h : vs.size = 1 then vs[0] else .tuple vs) : Sem Value) := by
  unfold results
  congr 1

theorem resV_sound {α : List Value} {S : Nat → Prop} {t : Tm} {h : List Blk} {a : Act} {w : World} (r : RepS B N α S t h a w) {rv : ResultVar} {d : D} (hd : resV P t h rv = some d) :
    ∃ v, (rvSem a.tmps rv).run P w = .ok v w ∧ RepV α S w v d := by
  cases rv with
  | tmp i =>
    simp only [resV] at hd
    exact ⟨_, rfl, r.get (x := .tmp i) hd⟩
  | cell x ty =>
    simp only [resV] at hd
    split at hd
    · rename_i dp hp
      split at hd
      · rename_i id off
        have hr := r.get (x := .tmp x) hp
        obtain ⟨v, hv, hrv⟩ := loadD_sound hd hr r.mem.rep
        refine ⟨v, ?_, hrv⟩
        have e : a.eval (.tmp x) = a.tmps.getD x undef := rfl
        rw [e] at hr hv
        simp only [rvSem]
        generalize a.tmps.getD x undef = u at hr hv ⊢
        cases hr with
        | ptr _ _ b hα =>
          simp only [Instr.loadAt, Instr.sureAddr, Sem.run_bind, Sem.run_pure, Result.andThen_ok] at hv
          simp only [Sem.run_bind, asAddr, Sem.run_pure, Result.andThen_ok]
          exact hv
      · cases hd
    · cases hd

theorem resL_sound {α : List Value} {S : Nat → Prop} {t : Tm} {h : List Blk} {a : Act} {w : World} (r : RepS B N α S t h a w) : ∀ (rs : List ResultVar) (ds : List D), resL P t h rs = some ds →
    ∃ vs : List Value, (rs.mapM (rvSem a.tmps)).run P w = .ok vs w ∧ RepL α S w vs ds
  | [], ds, hd => by cases hd; exact ⟨[], by simp, .nil⟩
  | rv :: rs, ds, hd => by
    unfold resL at hd
    split at hd
    · cases hd
    · rename_i d hv
      split at hd
      · cases hd
      · rename_i ds' hds
        cases hd
        obtain ⟨v, e1, e2⟩ := resV_sound r hv
        obtain ⟨vs, f1, f2⟩ := resL_sound r rs ds' hds
        exact ⟨v :: vs, by rw [List.mapM_cons]; simp only [Sem.run_bind, e1, Result.andThen_ok, f1, Sem.run_pure], .cons e2 f2⟩

theorem resD_sound {fn : Func} {α : List Value} {S : Nat → Prop} {t : Tm} {h : List Blk} {a : Act} {w : World} (r : RepS B N α S t h a w) {d : D} (hd : resD P fn.results.toList t h = some d) :
    ∃ v, (results fn a.tmps).run P w = .ok v w ∧ RepV α S w v d := by
  unfold resD at hd
  have main : ∀ ds, resL P t h fn.results.toList = some ds → ∃ vs : List Value, (fn.results.mapM (rvSem a.tmps)).run P w = .ok vs.toArray w ∧ RepL α S w vs ds := by
    intro ds hds
    obtain ⟨vs, h1, h2⟩ := resL_sound r _ _ hds
    refine ⟨vs, ?_, h2⟩
    rw [Array.mapM_eq_mapM_toList]
    simp only [Sem.run_map, h1, Result.andThen_ok]
  split at hd
  · rename_i d' hds
    cases hd
    obtain ⟨vs, h1, h2⟩ := main _ hds
    obtain ⟨v, rfl, hv⟩ := h2.one
    refine ⟨v, ?_, hv⟩
    rw [results_eq]
    simp only [Sem.run_bind, h1, Result.andThen_ok]
    rfl
  · rename_i ds hne hds
    cases hd
    obtain ⟨vs, h1, h2⟩ := main _ hds
    refine ⟨.tuple vs.toArray, ?_, .tup vs.toArray ds (by simpa using h2.1) fun i v c e1 e2 => h2.2 i v c (by simpa using e1) e2⟩
    rw [results_eq]
    simp only [Sem.run_bind, h1, Result.andThen_ok]
    rw [dif_neg]
    · rfl
    · intro hs
      have hl : ds.length = 1 := by rw [← h2.1]; simpa using hs
      match ds, hl with
      | [d], _ => exact hne d rfl
  · cases hd

theorem sealR_sound {α : List Value} {S : Nat → Prop} {h h' : List Blk} {w : World} {d d' : D} {v : Value} (hd : sealR d h = some (d', h')) (m : Mem B α S h w) (hv : RepV α S w v d) :
    ∃ S', Mem B α S' h' w ∧ Nx α S w α S' w ∧ RepV α S' w v d' := by
  unfold sealR at hd
  split at hd
  · rename_i ds
    split at hd
    case isFalse => cases hd
    rename_i hg
    split at hd
    · rename_i ds' h1 hs
      cases hd
      cases v with
      | tuple vs =>
        have hr : RepL α S w vs.toList ds := by
          cases hv with
          | tup _ _ hsz hc => exact ⟨by simpa using hsz, fun i v c e1 e2 => hc i v c (by simpa using e1) e2⟩
        obtain ⟨S', m', nx, r', _⟩ := sealGs_sound ds h α S ds' h' vs.toList hs m hr (goodAll_spec hg)
        exact ⟨S', m', nx, .tup vs ds' (by simpa using r'.1) fun i v c e1 e2 => r'.2 i v c (by simpa using e1) e2⟩
      | _ => cases hv
    · cases hd
  · split at hd
    · rename_i hg
      obtain ⟨S', m', nx, r', _⟩ := sealG_sound hd m hv hg
      exact ⟨S', m', nx, r'⟩
    · cases hd

end

/-- Here and now. -/
def Base.now (α : List Value) (S : Nat → Prop) (h : List Blk) (w : World) : Base := ⟨w, Own α h, S, α⟩

theorem Mem.start {B : Base} {α : List Value} {S : Nat → Prop} {h : List Blk} {w : World} (m : Mem B α S h w) : Mem (Base.now α S h w) α S h w :=
  ⟨m.rep, ⟨rfl, rfl, rfl, Nat.le_refl _, fun _ _ _ => rfl, fun _ hb => .inl hb, fun _ hb => hb, fun _ hb => .inl hb, Adv.refl _⟩⟩

theorem Mem.back {B : Base} {α α' : List Value} {S S' : Nat → Prop} {h h' : List Blk} {w w' : World} (m : Mem B α S h w) (k : Mem (Base.now α S h w) α' S' h' w') : Mem B α' S' h' w' ∧ Nx α S w α' S' w' := by
  have hsz : w.heap.size ≤ w'.heap.size := k.tr.size
  refine ⟨⟨k.rep, ⟨k.tr.os.trans m.tr.os, k.tr.tape.trans m.tr.tape, k.tr.output.trans m.tr.output, Nat.le_trans m.tr.size hsz, fun b x y => ?_, fun b hb => ?_, fun b hb => k.tr.s0 b (m.tr.s0 b hb), fun b hb => ?_, m.tr.adv.trans k.tr.adv⟩⟩,
    ⟨k.tr.adv, k.tr.s0, fun b hb => k.tr.frame b (m.rep.lt b hb) (fun ho => m.rep.sep b ho hb)⟩⟩
  · refine (k.tr.frame b (Nat.lt_of_lt_of_le x m.tr.size) (fun ho => ?_)).trans (m.tr.frame b x y)
    rcases m.tr.own b ho with q | q
    · exact y q
    · omega
  · rcases k.tr.own b hb with q | q
    · exact m.tr.own b q
    · exact .inr (Nat.le_trans m.tr.size q)
  · rcases k.tr.s1 b hb with q | q | q
    · exact m.tr.s1 b q
    · rcases m.tr.own b q with p | p
      · exact .inr (.inl p)
      · exact .inr (.inr p)
    · exact .inr (.inr (Nat.le_trans m.tr.size q))

/-- What a contract asks of the function's text. -/
structure Fact (P : Program) (f : FuncId) (N : Nat) (c : Code) (rs : List ResultVar) : Prop where
  mixed : P.follows .mixedOrders = true
  ent : entersB P f = true
  ex : ∃ fn : Func, P.funcs[f]? = some fn ∧ fn.body = some c ∧ fn.ntmps = N ∧ fn.results.toList = rs
  ok : chk P N c = true

section
variable {P : Program}

theorem wp_of_aw {f : FuncId} {N : Nat} {c : Code} {rs : List ResultVar} (hf : Fact P f N c rs) {ds : List D} (hN : ds.length ≤ N) {h : List Blk} {Q : D → List Blk → Prop} {post : X → Tm → List Blk → Prop} (ha : aw P h.length c post (args0 0 ds) h)
    (hp : ∀ (x : X) (t : Tm) (h1 : List Blk), post x t h1 → (∀ id, x ≠ .exit id) ∧ ∃ d, resD P rs t h1 = some d ∧ ∀ (B : Base) (α : List Value) (S : Nat → Prop) (w : World) (v : Value), Mem B α S h1 w → RepV α S w v d →
      ∃ r h2 S', Q r h2 ∧ Mem B α S' h2 w ∧ RepV α S' w v r) : Spec P f ds h Q := by
  refine ⟨hf.ent, ?_⟩
  intro B α S w args m ra
  obtain ⟨fn, h1, h2, h3, h4⟩ := hf.ex
  have hsz : args.size = ds.length := by simpa using ra.1
  refine calls_of_wp h1 h2 ?_
  have r0 : Rs (Base.now α S h w) N (args0 0 ds) h { tmps := args ++ Array.replicate (fn.ntmps - args.size) undef, defers := [] } w := by
    refine ⟨α, S, m.start, fun i d hi => ?_, by simp; omega, rfl⟩
    obtain ⟨_, e⟩ := args0_get ds 0 i d hi
    rw [Nat.sub_zero] at e
    have hlt : i < args.size := by rw [hsz]; exact (List.getElem?_eq_some_iff.1 e).1
    refine ⟨args[i], by rw [Array.getElem?_append_left hlt]; exact Array.getElem?_eq_getElem hlt, ra.2 i _ d (by simp [hlt]) e⟩
  refine wp_mono (aw_sound hf.mixed (by show α.length ≤ h.length; rw [m.rep.len]; exact Nat.le_refl _) c _ _ h _ w hf.ok ha r0) fun e a' w' hq => ?_
  have fin : ∀ {x : X} {t : Tm} {h' : List Blk}, post x t h' → Rs (Base.now α S h w) N t h' a' w' →
      (∀ id, x ≠ .exit id) ∧ (a'.defers = [] ∧ ∃ v, (results fn a'.tmps).run P w' = .ok v w' ∧ ∃ v' r h'' α' S', Ending.returned v = .returned v' ∧ Q r h'' ∧ Mem B α' S' h'' w' ∧ Nx α S w α' S' w' ∧ RepV α' S' w' v' r) := by
    intro x t h' q r
    obtain ⟨α', S', r⟩ := r
    obtain ⟨q0, d, hd, q⟩ := hp x t h' q
    rw [← h4] at hd
    obtain ⟨v, hv, hr⟩ := resD_sound r hd
    obtain ⟨r', h2, S2, q1, q2, q3⟩ := q _ α' S' w' v r.mem hr
    obtain ⟨b1, b2⟩ := m.back q2
    exact ⟨q0, r.defers, v, hv, v, r', h2, α', S2, rfl, q1, b1, b2, q3⟩
  cases e with
  | normal => obtain ⟨t, h', q, r⟩ := hq; exact (fin q r).2
  | ret => obtain ⟨t, h', q, r⟩ := hq; exact (fin q r).2
  | exit id => obtain ⟨t, h', q, r⟩ := hq; exact absurd rfl ((fin q r).1 id)
  | _ => exact hq.elim

theorem Spec.of_aw {f : FuncId} {N : Nat} {c : Code} {rs : List ResultVar} (hf : Fact P f N c rs) {ds : List D} (hN : ds.length ≤ N) {h : List Blk} {Q : D → List Blk → Prop} (ha : aw P h.length c (postH P rs Q) (args0 0 ds) h) : Spec P f ds h Q := by
  refine wp_of_aw hf hN ha fun x t h1 hp => ?_
  have main : ∀ {p : Prop}, (p = match resD P rs t h1 with | some d => Q d h1 | none => False) → p → ∃ d, resD P rs t h1 = some d ∧ ∀ (B : Base) (α : List Value) (S : Nat → Prop) (w : World) (v : Value), Mem B α S h1 w → RepV α S w v d →
      ∃ r h2 S', Q r h2 ∧ Mem B α S' h2 w ∧ RepV α S' w v r := by
    intro p e hp
    subst e
    split at hp
    · rename_i d hd
      exact ⟨d, hd, fun B α S w v m r => ⟨d, h1, S, hp, m, r⟩⟩
    · exact hp.elim
  cases x with
  | exit id => exact hp.elim
  | norm => exact ⟨by simp, main rfl hp⟩
  | ret => exact ⟨by simp, main rfl hp⟩

theorem PSpec.of_aw {f : FuncId} {N : Nat} {c : Code} {rs : List ResultVar} (hf : Fact P f N c rs) {ds : List D} (hN : ds.length ≤ N) {r : D} (ha : aw P 0 c (postP P rs fun d => d = r) (args0 0 ds) []) : PSpec P f ds r := by
  refine wp_of_aw hf hN ha fun x t h1 hp => ?_
  have main : ∀ {p : Prop}, (p = match resD P rs t h1 with | some d => (match sealR d h1 with | some (d', _) => d' = r | none => False) | none => False) → p → ∃ d, resD P rs t h1 = some d ∧ ∀ (B : Base) (α : List Value) (S : Nat → Prop) (w : World) (v : Value), Mem B α S h1 w → RepV α S w v d →
      ∃ r' h2 S', r' = r ∧ Mem B α S' h2 w ∧ RepV α S' w v r' := by
    intro p e hp
    subst e
    split at hp
    · rename_i d hd
      refine ⟨d, hd, fun B α S w v m rv => ?_⟩
      split at hp
      · rename_i d' h2 hs
        obtain ⟨S', m', nx, r'⟩ := sealR_sound hs m rv
        exact ⟨d', h2, S', hp, m', r'⟩
      · exact hp.elim
    · exact hp.elim
  cases x with
  | exit id => exact hp.elim
  | norm => exact ⟨by simp, main rfl hp⟩
  | ret => exact ⟨by simp, main rfl hp⟩

end
end Go.Ab
