/- States, contracts, one operation, a region in its text's order. -/
import Derived.Test.YtamckclacocifaaAb16
namespace Go.Ab

abbrev Tm := Nat → Option D

def get (t : Tm) : Operand → Option D
  | .tmp i => t i
  | .const v => constD v
  | .func f => some (.fn f [] [])
  | .global _ => none

def put (t : Tm) (dst : Option Nat) (x : Option D) : Tm :=
  match dst with
  | none => t
  | some k => fun i => if i = k then x else t i

/-- The model's frame and world stand for the engine's state. -/
structure RepS (B : Base) (N : Nat) (α : List Value) (S : Nat → Prop) (t : Tm) (h : List Blk) (a : Act) (w : World) : Prop where
  mem : Mem B α S h w
  tmp : ∀ i d, t i = some d → ∃ v, a.tmps[i]? = some v ∧ RepV α S w v d
  size : a.tmps.size = N
  defers : a.defers = []

def Rs (B : Base) (N : Nat) (t : Tm) (h : List Blk) (a : Act) (w : World) : Prop := ∃ α S, RepS B N α S t h a w

/-- A function with a text, that the model enters. -/
def entersB (P : Program) (f : FuncId) : Bool :=
  match P.funcs[f]? with
  | some fn => fn.body.isSome && !(fn.name == "runtime.NumGoroutine")
  | none => false

/-- A contract: called with these data over this memory the function returns, and what it returns and leaves satisfies Q. -/
def Spec (P : Program) (f : FuncId) (ds : List D) (h : List Blk) (Q : D → List Blk → Prop) : Prop :=
  entersB P f = true ∧ ∀ (B : Base) (α : List Value) (S : Nat → Prop) (w : World) (args : Array Value), Mem B α S h w → RepL α S w args.toList ds →
    Calls P f args w fun e w' => ∃ v r h' α' S', e = .returned v ∧ Q r h' ∧ Mem B α' S' h' w' ∧ Nx α S w α' S' w' ∧ RepV α' S' w' v r

theorem Spec.mono {P : Program} {f : FuncId} {ds : List D} {h : List Blk} {Q Q' : D → List Blk → Prop} (hs : Spec P f ds h Q) (hq : ∀ r h', Q r h' → Q' r h') : Spec P f ds h Q' :=
  ⟨hs.1, fun B α S w args m r => (hs.2 B α S w args m r).mono fun _ _ ⟨v, r, h', α', S', e, q, rest⟩ => ⟨v, r, h', α', S', e, hq _ _ q, rest⟩⟩

def calleeOf : Op → Option (Operand × List Operand)
  | .call { callee := .value f, args, .. } => some (f, args.toList)
  | _ => none

/-- What an operation may touch: 0 slots alone, 1 it reads memory, 2 it writes, 3 anything. -/
def cls (P : Program) : Op → Nat
  | .move _ | .assign _ | .pick .. | .build .. | .nilCheck _ | .binOp .. | .unOp .. | .fieldAddr .. | .field .. | .index .. | .extract .. | .makeInterface .. | .makeFunc .. => 0
  | .load .. | .indexAddr .. => 1
  | .slice t .. => if (arrOf P t).isSome then 2 else 1
  | .convert _ d _ => if (eltOf P d).isSome then 2 else 1
  | .call { callee := .value _, .. } => 0
  | .call { callee := .builtin b, .. } => match b with
    | .len | .min | .max => 0
    | .append => 2
    | _ => 3
  | .store .. | .alloc .. | .box .. | .buildSlice .. | .makeSlice .. | .range .. | .next .. => 2
  | _ => 3

/-- One operation. -/
def aop (P : Program) (o : Oper) (K : Option D → List Blk → Prop) (t : Tm) (h : List Blk) : Prop :=
  match calleeOf o.op with
  | some (f, args) => match get t f with
    | some (.fn fid fd cd) => match mapG (get t) args with
      | some ds => Spec P fid (fd ++ ds ++ cd) h fun r h' => K (some r) h'
      | none => False
    | _ => False
  | none => if cls P o.op ≤ 1 then (match evR P o.op (get t) h with
      | some d => K (some d) h
      | none => False) else (match evW P o.op (get t) h with
      | some (x, h') => K x h'
      | none => False)

/-- Is the guarded operation to be carried out? -/
def wantA (ops : Array Oper) (t : Tm) (o : Oper) : Option Bool :=
  match o.guard with
  | none => some true
  | some (j, want) => match (ops[j]?).bind (·.dst) with
    | some k => match t k with
      | some (.bool b) => some (b == want)
      | some .undef => some false
      | _ => none
    | none => none

/-- The operations of a region, one after the other. -/
def aops (P : Program) (ops : Array Oper) : List Oper → (Tm → List Blk → Prop) → Tm → List Blk → Prop
  | [], K, t, h => K t h
  | o :: rest, K, t, h => match wantA ops t o with
    | none => False
    | some b => if b = true then aop P o (fun x h' => aops P ops rest K (put t o.dst x) h') t h else aops P ops rest K (put t o.dst (some .undef)) h

section
variable {P : Program} {B : Base} {N : Nat} {α : List Value} {S : Nat → Prop} {t : Tm} {h : List Blk} {a : Act} {w : World}

theorem RepS.get (r : RepS B N α S t h a w) {x : Operand} {d : D} (hx : get t x = some d) : RepV α S w (a.eval x) d := by
  cases x with
  | tmp i =>
    obtain ⟨v, hv, hr⟩ := r.tmp i d hx
    have : a.eval (.tmp i) = v := by
      show a.tmps.getD i undef = v
      simp [Array.getD_eq_getD_getElem?, hv]
    rw [this]
    exact hr
  | const v => exact constD_rep hx
  | func f => cases hx; exact .fn f #[] #[] [] [] rfl rfl (by simp) (by simp)
  | global g => cases hx

/-- The slot is written. -/
theorem RepS.put {α' : List Value} {S' : Nat → Prop} {h' : List Blk} {w' : World} (r : RepS B N α S t h a w) (m : Mem B α' S' h' w') (nx : Nx α S w α' S' w') {dst : Option Nat} {x : Option D} {v : Value}
    (hd : ∀ k, dst = some k → k < N) (hv : ∀ d, x = some d → RepV α' S' w' v d) : RepS B N α' S' (put t dst x) h' (a.put dst v) w' := by
  refine ⟨m, fun i d hi => ?_, ?_, ?_⟩
  · cases dst with
    | none =>
      obtain ⟨u, hu, hr⟩ := r.tmp i d hi
      exact ⟨u, hu, nx.rep hr⟩
    | some k =>
      simp only [Ab.put] at hi
      by_cases hik : i = k
      · subst hik
        rw [if_pos rfl] at hi
        exact ⟨v, by simp [Act.put, r.size, hd i rfl], hv d hi⟩
      · rw [if_neg hik] at hi
        obtain ⟨u, hu, hr⟩ := r.tmp i d hi
        exact ⟨u, by simp only [Act.put]; rw [Array.getElem?_setIfInBounds_ne (fun e => hik e.symm)]; exact hu, nx.rep hr⟩
  · cases dst <;> simp [Act.put, r.size]
  · cases dst <;> simp [Act.put, r.defers]

theorem RepS.wanted (r : RepS B N α S t h a w) {ops : Array Oper} {o : Oper} {b : Bool} (hw : wantA ops t o = some b) : Region.wanted o (yielded ops a.tmps) = b := by
  unfold wantA at hw
  unfold Region.wanted
  split at hw
  · rename_i hg; cases hw; rw [hg]
  · rename_i j want hg
    split at hw
    · rename_i k hk
      split at hw
      · rename_i b' hb
        cases hw
        obtain ⟨v, hv, hr⟩ := r.tmp k _ hb
        have : v = .bool b' := by cases hr; rfl
        subst this
        have hy : yielded ops a.tmps j = some b' := by
          unfold yielded
          rw [hk]
          simp only [Option.bind_some, hv]
        rw [hg]
        simp only [hy]
        cases b' <;> cases want <;> rfl
      · rename_i hb
        cases hw
        obtain ⟨v, hv, hr⟩ := r.tmp k _ hb
        have : v = undef := by cases hr; rfl
        subst this
        have hy : yielded ops a.tmps j = none := by
          unfold yielded
          rw [hk]
          simp only [Option.bind_some, hv]
          rfl
        rw [hg]
        simp only [hy]
        cases want <;> rfl
      · cases hw
    · cases hw

/-- The model enters a called function. -/
theorem run_call {o : Oper} {f : Operand} {args : List Operand} (hc : calleeOf o.op = some (f, args)) {ρ : Operand → Value} {fid : FuncId} {first cap : Array Value} (hf : ρ f = .func (.func fid) first cap) (he : entersB P fid = true) :
    (execOp ρ o).run P w = .ok (.enter fid (first ++ (args.map ρ).toArray ++ cap)) w := by
  obtain ⟨dst, op, type, pos, after, guard⟩ := o
  simp only at hc
  unfold calleeOf at hc
  split at hc
  · rename_i f' args' ats
    cases hc
    unfold entersB at he
    split at he
    · rename_i fn hfn
      simp only [Bool.and_eq_true, Bool.not_eq_true'] at he
      have e1 : args'.map ρ = (args'.toList.map ρ).toArray := by apply Array.ext'; simp
      have e2 : fn.body.isNone = false := by cases hb : fn.body <;> simp_all
      simp only [execOp, resolve, hf, Deferred.ofValue, Sem.run_bind, Sem.run_pure, Result.andThen_ok, invoke, callFunc, run_program, hfn, he.2, Bool.false_eq_true, if_false, e2, e1]
    · cases he
  · cases hc

theorem aop_sound {o : Oper} {K : Option D → List Blk → Prop} {Q : Exit → Act → World → Prop} {K' : Act → World → Prop} (hd : ∀ k, o.dst = some k → k < N) (ha : aop P o K t h) (r : RepS B N α S t h a w)
    (hK : ∀ (x : Option D) (h' : List Blk) (α' : List Value) (S' : Nat → Prop) (a' : Act) (w' : World), K x h' → RepS B N α' S' (put t o.dst x) h' a' w' → K' a' w') : o.wp P a w K' Q := by
  unfold aop at ha
  split at ha
  · rename_i f args hc
    split at ha
    · rename_i fid fd cd hf
      split at ha
      · rename_i ds hds
        obtain ⟨he, hs⟩ := ha
        have hfr := r.get hf
        have hcall : ∃ first cap, a.eval f = .func (.func fid) first cap ∧ RepL α S w first.toList fd ∧ RepL α S w cap.toList cd := by
          generalize a.eval f = v at hfr
          cases hfr with
          | fn _ first cap _ _ h1 h2 h3 h4 => exact ⟨first, cap, rfl, ⟨by simpa using h1, fun i v d e1 e2 => h3 i v d (by simpa using e1) e2⟩, ⟨by simpa using h2, fun i v d e1 e2 => h4 i v d (by simpa using e1) e2⟩⟩
        obtain ⟨first, cap, hv, hr1, hr2⟩ := hcall
        have hrun := run_call (P := P) (w := w) hc hv he
        have hargs := mapG_rep (ρ := a.eval) (fun x y e => r.get e) args ds hds
        have happ : ∀ {vs us : List Value} {cs es : List D}, RepL α S w vs cs → RepL α S w us es → RepL α S w (vs ++ us) (cs ++ es) := by
          intro vs us cs es q1 q2
          refine ⟨by simp [q1.1, q2.1], fun i v c e1 e2 => ?_⟩
          by_cases hi : i < vs.length
          · rw [List.getElem?_append_left hi] at e1
            rw [List.getElem?_append_left (by rw [← q1.1]; exact hi)] at e2
            exact q1.2 i v c e1 e2
          · rw [List.getElem?_append_right (by omega)] at e1
            rw [List.getElem?_append_right (by rw [← q1.1]; omega)] at e2
            rw [← q1.1] at e2
            exact q2.2 _ v c e1 e2
        unfold Oper.wp
        rw [hrun]
        simp only [Oper.upon]
        refine (hs B α S w _ r.mem (by simpa using happ (happ hr1 hargs) hr2)).mono ?_
        rintro e w' ⟨v, rr, h', α', S', rfl, q, m', nx, rv⟩
        exact hK (some rr) h' α' S' _ w' q (r.put m' nx hd fun d e => by cases e; exact rv)
      · exact ha.elim
    · exact ha.elim
  · split at ha
    · split at ha
      · rename_i d hev
        obtain ⟨v, hv, hr⟩ := evR_sound hev (ρ := a.eval) (fun x y e => r.get e) r.mem.rep
        unfold Oper.wp
        rw [hv]
        exact hK _ _ α S _ w ha (r.put r.mem (Nx.refl _ _ _) hd fun d' e => by cases e; exact hr)
      · exact ha.elim
    · split at ha
      · rename_i x h' hev
        obtain ⟨n, w', α', S', hrun, m', nx, hg⟩ := evW_sound hev (ρ := a.eval) (fun x y e => r.get e) r.mem
        unfold Oper.wp
        rw [hrun]
        cases n with
        | value v =>
          cases x with
          | some d => exact hK _ _ α' S' _ w' ha (r.put m' nx hd fun d' e => by cases e; exact hg)
          | none => exact hg.elim
        | skip =>
          cases x with
          | none => exact hK _ _ α' S' _ w' ha (r.put m' nx hd fun d' e => by cases e)
          | some d => exact hg.elim
        | _ => exact hg.elim
      · exact ha.elim

theorem aops_sound {ops : Array Oper} {K : Tm → List Blk → Prop} {Q : Exit → Act → World → Prop} (hK : ∀ t h a w, K t h → Rs B N t h a w → Q .normal a w) :
    ∀ (l : List Oper) (t : Tm) (h : List Blk) (a : Act) (w : World), (∀ o ∈ l, ∀ k, o.dst = some k → k < N) → aops P ops l K t h → Rs B N t h a w → wpList P ops Q l a w
  | [], t, h, a, w, _, ha, hr => hK t h a w ha hr
  | o :: rest, t, h, a, w, hd, ha, ⟨α, S, r⟩ => by
    unfold aops at ha
    split at ha
    · exact ha.elim
    · rename_i b hb
      have hw := r.wanted hb
      unfold wpList
      rw [hw]
      split at ha
      · rename_i hbt
        subst hbt
        simp only [if_true]
        exact .inl (aop_sound (fun k e => hd o (by simp) k e) ha r fun x h' α' S' a' w' q r' => aops_sound hK rest _ h' a' w' (fun o' ho' => hd o' (by simp [ho'])) q ⟨α', S', r'⟩)
      · rename_i hbf
        simp only [hbf]
        exact aops_sound hK rest _ h _ w (fun o' ho' => hd o' (by simp [ho'])) ha ⟨α, S, r.put r.mem (Nx.refl _ _ _) (fun k e => hd o (by simp) k e) (fun d e => by cases e; exact .undef)⟩

end
end Go.Ab
