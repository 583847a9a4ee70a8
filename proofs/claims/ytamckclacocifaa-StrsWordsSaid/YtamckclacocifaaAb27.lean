/- The small code of a function, and contracts out of it. -/
import Derived.Test.YtamckclacocifaaAb26
namespace Go.Ab

/-- The guards' slots. -/
def gd (ops : Array Oper) (o : Oper) : Option (Option (Nat × Bool)) :=
  match o.guard with
  | none => some none
  | some (j, want) => match (ops[j]?).bind (·.dst) with
    | some k => some (some (k, want))
    | none => none

def annR (P : Program) (dr : Bool) (ops : Array Oper) : List Oper → Option (List (Option Nat × IOp × Option (Nat × Bool)))
  | [] => some []
  | o :: os => (rop P dr o.op).bind fun io => (gd ops o).bind fun g => (annR P dr ops os).bind fun l => some ((o.dst, io, g) :: l)

def ann (P : Program) : Code → Option IC
  | .skip => some .skip
  | .label _ => some .skip
  | .region _ ops d => (annR P d ops ops.toList).bind fun l => some (.reg l)
  | .seq a b => (ann P a).bind fun x => (ann P b).bind fun y => some (.seq x y)
  | .cond c a b => (rx c).bind fun o => (ann P a).bind fun x => (ann P b).bind fun y => some (.cond o x y)
  | .block id b => (ann P b).bind fun x => some (.blk id x)
  | .loop b => (ann P b).bind fun x => some (.loop x)
  | .scope b => ann P b
  | .exit id => some (.exit id)
  | .ret => some .ret
  | _ => none

section
variable {P : Program}

theorem aop_of_ev {o : Oper} {K : Option D → List Blk → Prop} {t : Tm} {h : List Blk} (hc : calleeOf o.op = none) (he : ∃ x h', EvC P o.op (get t) h x h' ∧ K x h') : aop P o K t h ∧ aopD P o K t h := by
  obtain ⟨x, h', he, hK⟩ := he
  unfold EvC at he
  unfold aop aopD
  rw [hc]
  split at he
  · rename_i hcl
    obtain ⟨rfl, d, hd, rfl⟩ := he
    simp only [hcl, if_true, hd]
    exact ⟨hK, hK⟩
  · rename_i hcl
    simp only [hcl, if_false, he]
    exact ⟨hK, hK⟩

theorem callee_rop {op : Op} {f : Operand} {args : List Operand} (hc : calleeOf op = some (f, args)) {dr : Bool} {io : IOp} (hr : rop P dr op = some io) :
    ∃ a l, rx f = some a ∧ rxL args = some l ∧ io = if dr = true then .pcall a l else .call a l := by
  unfold calleeOf at hc
  split at hc
  · cases hc
    simp only [rop] at hr
    obtain ⟨a, ha, hr⟩ := bs hr
    obtain ⟨l, hl, hr⟩ := bs hr
    cases hr
    exact ⟨a, l, ha, hl, rfl⟩
  · cases hc

theorem iop_aop {o : Oper} {io : IOp} {K : Option D → List Blk → Prop} {t : Tm} {h : List Blk} (hr : rop P false o.op = some io) (hi : iop P io K t h) : aop P o K t h := by
  cases hc : calleeOf o.op with
  | none => exact (aop_of_ev hc (iop_ev hc hr hi)).1
  | some fa =>
    obtain ⟨f, args⟩ := fa
    obtain ⟨a, l, ha, hl, rfl⟩ := callee_rop hc hr
    simp only [Bool.false_eq_true, if_false, iop] at hi
    unfold aop
    rw [hc]
    simp only [rx_get ha]
    split at hi
    · rename_i fid fd cd hf
      obtain ⟨ds, hds, hi⟩ := onS_some hi
      simp only [hf, rxL_get _ _ hl, hds]
      exact hi.h
    · exact hi.elim

theorem iop_aopD {o : Oper} {io : IOp} {K : Option D → List Blk → Prop} {t : Tm} {h : List Blk} (hr : rop P true o.op = some io) (hi : iop P io K t h) : aopD P o K t h := by
  cases hc : calleeOf o.op with
  | none => exact (aop_of_ev hc (iop_ev hc hr hi)).2
  | some fa =>
    obtain ⟨f, args⟩ := fa
    obtain ⟨a, l, ha, hl, rfl⟩ := callee_rop hc hr
    simp only [if_true, iop] at hi
    unfold aopD
    rw [hc]
    simp only [rx_get ha]
    split at hi
    · rename_i fid fd cd hf
      obtain ⟨ds, hds, hi⟩ := onS_some hi
      simp only [hf, rxL_get _ _ hl, hds]
      exact hi.h
    · exact hi.elim

theorem iregs_step {ops : Array Oper} {o : Oper} {g : Option (Nat × Bool)} (hg : gd ops o = some g) {io : IOp} {rest : List (Option Nat × IOp × Option (Nat × Bool))} {K : Tm → List Blk → Prop} {t : Tm} {h : List Blk} (hi : iregs P ((o.dst, io, g) :: rest) K t h) :
    ∃ b, wantA ops t o = some b ∧ (b = true → iop P io (fun x h' => iregs P rest K (put t o.dst x) h') t h) ∧ (b = false → iregs P rest K (put t o.dst (some .undef)) h) := by
  unfold gd at hg
  unfold wantA
  split at hg
  · rename_i e
    cases hg
    rw [e]
    exact ⟨true, rfl, fun _ => hi, fun e => by cases e⟩
  · rename_i j want e
    rw [e]
    split at hg
    · rename_i k hk
      cases hg
      simp only [hk]
      rw [iregs_some] at hi
      split at hi
      · rename_i b hb
        refine ⟨b == want, by simp only [hb], fun e => ?_, fun e => ?_⟩ <;> cases b <;> cases want <;> first | exact hi.t rfl | exact hi.f rfl | cases e
      · rename_i hb
        exact ⟨false, by simp only [hb], fun e => (by cases e), fun _ => hi⟩
      · exact hi.elim
    · cases hg

theorem iregs_aops {ops : Array Oper} : ∀ (l : List Oper) (r : List (Option Nat × IOp × Option (Nat × Bool))) (K : Tm → List Blk → Prop) (t : Tm) (h : List Blk), annR P false ops l = some r → iregs P r K t h → aops P ops l K t h
  | [], r, K, t, h, hr, hi => by cases hr; exact hi
  | o :: l, r, K, t, h, hr, hi => by
    obtain ⟨io, hio, hr⟩ := bs hr
    obtain ⟨g, hg, hr⟩ := bs hr
    obtain ⟨r', hr', hr⟩ := bs hr
    cases hr
    obtain ⟨b, hw, h1, h2⟩ := iregs_step hg hi
    unfold aops
    simp only [hw]
    cases b with
    | true =>
      simp only [if_true]
      have := iop_aop hio (h1 rfl)
      exact aop_mono (fun x h' q => iregs_aops l r' K _ h' hr' q) this
    | false =>
      simp only [Bool.false_eq_true, if_false]
      exact iregs_aops l r' K _ h hr' (h2 rfl)
where
  aop_mono {o : Oper} {K K' : Option D → List Blk → Prop} {t : Tm} {h : List Blk} (hk : ∀ x h', K x h' → K' x h') (ha : aop P o K t h) : aop P o K' t h := by
    unfold aop at *
    split
    · rename_i f args hc
      rw [hc] at ha
      simp only at ha
      split
      · rename_i fid fd cd hf
        rw [hf] at ha
        simp only at ha
        split
        · rename_i ds hds
          rw [hds] at ha
          exact ha.mono fun r h' q => hk _ _ q
        · rename_i hds
          rw [hds] at ha
          exact ha
      · rename_i hne
        split at ha
        · rename_i fid fd cd hf
          exact absurd hf (hne fid fd cd)
        · exact ha
    · rename_i hc
      rw [hc] at ha
      simp only at ha
      split
      · rename_i hcl
        rw [if_pos hcl] at ha
        split
        · rename_i d hd; rw [hd] at ha; exact hk _ _ ha
        · rename_i hd; rw [hd] at ha; exact ha
      · rename_i hcl
        rw [if_neg hcl] at ha
        split
        · rename_i x h' hd; rw [hd] at ha; exact hk _ _ ha
        · rename_i hd; rw [hd] at ha; exact ha

theorem aopD_mono {o : Oper} {K K' : Option D → List Blk → Prop} {t : Tm} {h : List Blk} (hk : ∀ x h', K x h' → K' x h') (ha : aopD P o K t h) : aopD P o K' t h := by
  unfold aopD at *
  split
  · rename_i f args hc
    rw [hc] at ha
    simp only at ha
    split
    · rename_i fid fd cd hf
      rw [hf] at ha
      simp only at ha
      split
      · rename_i ds hds
        rw [hds] at ha
        obtain ⟨r, h1, h2, h3, h4⟩ := ha
        exact ⟨r, h1, h2, h3, hk _ _ h4⟩
      · rename_i hds
        rw [hds] at ha
        exact ha
    · rename_i hne
      split at ha
      · rename_i fid fd cd hf
        exact absurd hf (hne fid fd cd)
      · exact ha
  · rename_i hc
    rw [hc] at ha
    simp only at ha
    split
    · rename_i hcl
      rw [if_pos hcl] at ha
      split
      · rename_i d hd; rw [hd] at ha; exact hk _ _ ha
      · rename_i hd; rw [hd] at ha; exact ha
    · rename_i hcl
      rw [if_neg hcl] at ha
      split
      · rename_i x h' hd; rw [hd] at ha; exact hk _ _ ha
      · rename_i hd; rw [hd] at ha; exact ha

theorem iregs_adr {ops : Array Oper} : ∀ (l : List Oper) (r : List (Option Nat × IOp × Option (Nat × Bool))) (K : Tm → List Blk → Prop) (t : Tm) (h : List Blk), annR P true ops l = some r → iregs P r K t h → adr P ops l K t h
  | [], r, K, t, h, hr, hi => by cases hr; exact hi
  | o :: l, r, K, t, h, hr, hi => by
    obtain ⟨io, hio, hr⟩ := bs hr
    obtain ⟨g, hg, hr⟩ := bs hr
    obtain ⟨r', hr', hr⟩ := bs hr
    cases hr
    obtain ⟨b, hw, h1, h2⟩ := iregs_step hg hi
    unfold adr
    simp only [hw]
    cases b with
    | true =>
      simp only [if_true]
      have := iop_aopD hio (h1 rfl)
      exact aopD_mono (fun x h' q => iregs_adr l r' K _ h' hr' q) this
    | false =>
      simp only [Bool.false_eq_true, if_false]
      exact iregs_adr l r' K _ h hr' (h2 rfl)

theorem aops_mono {ops : Array Oper} {K K' : Tm → List Blk → Prop} (hk : ∀ t h, K t h → K' t h) : ∀ (l : List Oper) (t : Tm) (h : List Blk), aops P ops l K t h → aops P ops l K' t h
  | [], t, h, ha => hk t h ha
  | o :: l, t, h, ha => by
    unfold aops at *
    split
    · rename_i e; rw [e] at ha; exact ha
    · rename_i b e
      rw [e] at ha
      simp only at ha
      split
      · rename_i hb
        rw [if_pos hb] at ha
        exact iregs_aops.aop_mono (fun x h' q => aops_mono hk l _ h' q) ha
      · rename_i hb
        rw [if_neg hb] at ha
        exact aops_mono hk l _ h ha

theorem adr_mono {ops : Array Oper} {K K' : Tm → List Blk → Prop} (hk : ∀ t h, K t h → K' t h) : ∀ (l : List Oper) (t : Tm) (h : List Blk), adr P ops l K t h → adr P ops l K' t h
  | [], t, h, ha => hk t h ha
  | o :: l, t, h, ha => by
    unfold adr at *
    split
    · rename_i e; rw [e] at ha; exact ha
    · rename_i b e
      rw [e] at ha
      simp only at ha
      split
      · rename_i hb
        rw [if_pos hb] at ha
        exact aopD_mono (fun x h' q => adr_mono hk l _ h' q) ha
      · rename_i hb
        rw [if_neg hb] at ha
        exact adr_mono hk l _ h ha

theorem lp_mono {n0 : Nat} {F G : (Tm → List Blk → Prop) → Tm → List Blk → Prop} (hFG : ∀ K K' : Tm → List Blk → Prop, (∀ t h, K t h → K' t h) → ∀ t h, F K t h → G K' t h) : ∀ (n : Nat) (t : Tm) (h : List Blk), lp n0 F n t h → lp n0 G n t h
  | 0, _, _, hl => hl
  | n + 1, t, h, hl => hFG _ _ (fun _ _ ⟨t2, h2, hw, hl⟩ => ⟨t2, h2, hw, lp_mono hFG n t2 h2 hl⟩) t h hl

theorem thn_mono {K K' : Tm → List Blk → Prop} {Q Q' : X → Tm → List Blk → Prop} (hk : ∀ t h, K t h → K' t h) (hq : ∀ x t h, Q x t h → Q' x t h) : ∀ x t h, thn K Q x t h → thn K' Q' x t h := by
  intro x t h hx
  cases x with
  | norm => exact hk t h hx
  | exit id => exact hq _ t h hx
  | ret => exact hq _ t h hx

theorem inb_mono {id : Nat} {Q Q' : X → Tm → List Blk → Prop} (hq : ∀ x t h, Q x t h → Q' x t h) : ∀ x t h, inb id Q x t h → inb id Q' x t h := by
  intro x t h hx
  cases x with
  | norm => exact hq _ t h hx
  | ret => exact hq _ t h hx
  | exit id' =>
    simp only [inb] at *
    split
    · rename_i e; rw [if_pos e] at hx; exact hq _ t h hx
    · rename_i e; rw [if_neg e] at hx; exact hq _ t h hx

theorem iw_aw {n0 : Nat} : ∀ (c : Code) (ic : IC) (Q Q' : X → Tm → List Blk → Prop) (t : Tm) (h : List Blk), ann P c = some ic → (∀ x t h, Q x t h → Q' x t h) → iw P n0 ic Q t h → aw P n0 c Q' t h
  | .skip, ic, Q, Q', t, h, ha, hq, hi => by cases ha; exact hq _ _ _ hi
  | .label _, ic, Q, Q', t, h, ha, hq, hi => by cases ha; exact hq _ _ _ hi
  | .region id ops d, ic, Q, Q', t, h, ha, hq, hi => by
    obtain ⟨l, hl, ha⟩ := bs ha
    cases ha
    simp only [aw]
    cases d with
    | true => exact adr_mono (hq .norm) _ _ _ (iregs_adr _ l _ t h hl hi)
    | false => exact aops_mono (hq .norm) _ _ _ (iregs_aops _ l _ t h hl hi)
  | .seq a b, ic, Q, Q', t, h, ha, hq, hi => by
    obtain ⟨x, hx, ha⟩ := bs ha
    obtain ⟨y, hy, ha⟩ := bs ha
    cases ha
    exact iw_aw a x _ _ t h hx (thn_mono (fun _ _ ⟨t2, h2, hw, q⟩ => ⟨t2, h2, hw, iw_aw b y Q Q' t2 h2 hy hq q⟩) hq) hi
  | .cond c a b, ic, Q, Q', t, h, ha, hq, hi => by
    obtain ⟨o, ho, ha⟩ := bs ha
    obtain ⟨x, hx, ha⟩ := bs ha
    obtain ⟨y, hy, ha⟩ := bs ha
    cases ha
    rw [iw_cond] at hi
    simp only [aw, rx_get ho]
    split at hi
    · rename_i p hp
      rw [hp]
      simp only
      split
      · rename_i hpt; exact iw_aw a x Q Q' t h hx hq (hi.t hpt)
      · rename_i hpf; exact iw_aw b y Q Q' t h hy hq (hi.f (by simpa using hpf))
    · exact hi.elim
  | .block id b, ic, Q, Q', t, h, ha, hq, hi => by
    obtain ⟨x, hx, ha⟩ := bs ha
    cases ha
    exact iw_aw b x _ _ t h hx (inb_mono hq) hi
  | .loop b, ic, Q, Q', t, h, ha, hq, hi => by
    obtain ⟨x, hx, ha⟩ := bs ha
    cases ha
    obtain ⟨n, t', h', hw, hl⟩ := hi
    exact ⟨n, t', h', hw, lp_mono (fun K K' hk t h q => iw_aw b x _ _ t h hx (thn_mono hk hq) q) n t' h' hl⟩
  | .exit id, ic, Q, Q', t, h, ha, hq, hi => by cases ha; exact hq _ _ _ hi
  | .ret, ic, Q, Q', t, h, ha, hq, hi => by cases ha; exact hq _ _ _ hi
  | .scope b, ic, Q, Q', t, h, ha, hq, hi => iw_aw b ic Q Q' t h ha hq hi
  | .goto _, ic, Q, Q', t, h, ha, hq, hi => by cases ha
  | .rangeFunc .., ic, Q, Q', t, h, ha, hq, hi => by cases ha
  | .refuse _, ic, Q, Q', t, h, ha, hq, hi => by cases ha

/-- Of a function: its text is there, it is in order, and this is its small code. -/
def factB (P : Program) (f : FuncId) (N : Nat) (rs : List ResultVar) : Option IC :=
  match P.funcs[f]? with
  | none => none
  | some fn => match fn.body with
    | none => none
    | some c => if chk P N c = true ∧ entersB P f = true ∧ fn.ntmps = N ∧ fn.results.toList.length = rs.length then ann P c else none

structure Fac (P : Program) (f : FuncId) (N : Nat) (ic : IC) (rs : List ResultVar) : Prop where
  mixed : P.follows .mixedOrders = true
  ex : ∃ fn : Func, ∃ c, P.funcs[f]? = some fn ∧ fn.body = some c ∧ fn.ntmps = N ∧ fn.results.toList = rs ∧ ann P c = some ic
  ok : ((P.funcs[f]?).bind (·.body)).all (fun c => chk P N c) = true
  ent : entersB P f = true

theorem Fac.fact {f : FuncId} {N : Nat} {ic : IC} {rs : List ResultVar} (hf : Fac P f N ic rs) : ∃ c, Fact P f N c rs ∧ ann P c = some ic := by
  obtain ⟨fn, c, h1, h2, h3, h4, h5⟩ := hf.ex
  refine ⟨c, ⟨hf.mixed, hf.ent, ⟨fn, h1, h2, h3, h4⟩, ?_⟩, h5⟩
  have := hf.ok
  rw [h1] at this
  simpa [h2] using this

theorem Spec.of_iw {f : FuncId} {N : Nat} {ic : IC} {rs : List ResultVar} (hf : Fac P f N ic rs) {ds : List D} (hN : ds.length ≤ N) {h : List Blk} {Q : D → List Blk → Prop} (hi : iw P h.length ic (postH P rs Q) (args0 0 ds) h) : Spec P f ds h Q := by
  obtain ⟨c, hc, ha⟩ := hf.fact
  exact Spec.of_aw hc hN (iw_aw c ic _ _ _ _ ha (fun _ _ _ q => q) hi)

theorem PSpec.of_iw {f : FuncId} {N : Nat} {ic : IC} {rs : List ResultVar} (hf : Fac P f N ic rs) {ds : List D} (hN : ds.length ≤ N) {r : D} (hi : iw P 0 ic (postP P rs fun d => d = r) (args0 0 ds) []) : PSpec P f ds r := by
  obtain ⟨c, hc, ha⟩ := hf.fact
  exact PSpec.of_aw hc hN (iw_aw c ic _ _ _ _ ha (fun _ _ _ q => q) hi)

end
end Go.Ab
