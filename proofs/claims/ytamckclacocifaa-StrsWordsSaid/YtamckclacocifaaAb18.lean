/- Regions whose order is left open: one look at the text's order serves every order, where operations that are not ordered do not touch each other. -/
import Derived.Test.YtamckclacocifaaAb17
namespace Go.Ab

/-- A contract over data alone. -/
def PSpec (P : Program) (f : FuncId) (ds : List D) (r : D) : Prop := Spec P f ds [] fun r' _ => r' = r

/-- A call that neither gets nor gives a block of ours. -/
def PCall (P : Program) (f : FuncId) (ds : List D) (K : D → Prop) : Prop := ∃ r, PSpec P f ds r ∧ (∀ d ∈ ds, Bd 0 d) ∧ Bd 0 r ∧ K r

/-- One operation of such a region. -/
def aopD (P : Program) (o : Oper) (K : Option D → List Blk → Prop) (t : Tm) (h : List Blk) : Prop :=
  match calleeOf o.op with
  | some (f, args) => match get t f with
    | some (.fn fid fd cd) => match mapG (get t) args with
      | some ds => PCall P fid (fd ++ ds ++ cd) fun r => K (some r) h
      | none => False
    | _ => False
  | none => if cls P o.op ≤ 1 then (match evR P o.op (get t) h with
      | some d => K (some d) h
      | none => False) else (match evW P o.op (get t) h with
      | some (x, h') => K x h'
      | none => False)

def adr (P : Program) (ops : Array Oper) : List Oper → (Tm → List Blk → Prop) → Tm → List Blk → Prop
  | [], K, t, h => K t h
  | o :: rest, K, t, h => match wantA ops t o with
    | none => False
    | some b => if b = true then aopD P o (fun x h' => adr P ops rest K (put t o.dst x) h') t h else adr P ops rest K (put t o.dst (some .undef)) h

def commB (P : Program) (ops : Array Oper) (x y : Oper) : Bool :=
  x.apart ops y && !(cls P x.op == 2 && decide (1 ≤ cls P y.op)) && !(cls P y.op == 2 && decide (1 ≤ cls P x.op))

/-- Which of the operations wait for number i, through others too. -/
def depsOf (i : Nat) : List Oper → List Bool → List Bool
  | [], acc => acc
  | o :: os, acc => depsOf i os (acc ++ [o.after.any fun e => Region.binds .any e && (e.on == i || acc.getD e.on false)])

def pairsOk (P : Program) (ops : Array Oper) (i : Nat) (oi : Oper) : Bool :=
  (List.range ops.size).all fun j => decide (j ≤ i) || (match ops[j]? with
    | some oj => commB P ops oi oj || (depsOf i ops.toList []).getD j false
    | none => true)

def okDraw (P : Program) (ops : Array Oper) : Bool :=
  ops.toList.all (fun o => decide (cls P o.op ≤ 2)) && (ops.toList.zipIdx.all fun (o, i) => o.after.all (fun e => !Region.binds .any e || decide (e.on < i)) && pairsOk P ops i o)

/-- The outcome of one operation. -/
def Oev (P : Program) (o : Oper) (t : Tm) (h : List Blk) (x : Option D) (h' : List Blk) : Prop :=
  match calleeOf o.op with
  | some (f, args) => ∃ fid fd cd ds r, get t f = some (.fn fid fd cd) ∧ mapG (get t) args = some ds ∧ PSpec P fid (fd ++ ds ++ cd) r ∧ (∀ d ∈ fd ++ ds ++ cd, Bd 0 d) ∧ Bd 0 r ∧ x = some r ∧ h' = h
  | none => if cls P o.op ≤ 1 then h' = h ∧ ∃ d, evR P o.op (get t) h = some d ∧ x = some d else evW P o.op (get t) h = some (x, h')

def OutD (P : Program) (ops : Array Oper) (o : Oper) (t : Tm) (h : List Blk) (x : Option D) (h' : List Blk) : Prop :=
  match wantA ops t o with
  | none => False
  | some b => if b = true then Oev P o t h x h' else x = some .undef ∧ h' = h

section
variable {P : Program} {ops : Array Oper}

theorem aopD_out {o : Oper} {K : Option D → List Blk → Prop} {t : Tm} {h : List Blk} (ha : aopD P o K t h) : ∃ x h', Oev P o t h x h' ∧ K x h' := by
  unfold aopD at ha
  unfold Oev
  split at ha
  · rename_i f args hc
    split at ha
    · rename_i fid fd cd hf
      split at ha
      · rename_i ds hds
        obtain ⟨r, h1, h2, h3, h4⟩ := ha
        exact ⟨some r, h, ⟨fid, fd, cd, ds, r, hf, hds, h1, h2, h3, rfl, rfl⟩, h4⟩
      · exact ha.elim
    · exact ha.elim
  · rename_i hc
    split at ha
    · rename_i hcl
      split at ha
      · rename_i d hd
        exact ⟨some d, h, by rw [if_pos hcl]; exact ⟨rfl, d, hd, rfl⟩, ha⟩
      · exact ha.elim
    · rename_i hcl
      split at ha
      · rename_i x h' hd
        exact ⟨x, h', by rw [if_neg hcl]; exact hd, ha⟩
      · exact ha.elim

theorem mapG_congr {g g' : Operand → Option D} : ∀ (xs : List Operand), (∀ x ∈ xs, g x = g' x) → mapG g xs = mapG g' xs
  | [], _ => rfl
  | x :: xs, h => by
    simp only [mapG]
    rw [h x (by simp), mapG_congr xs fun y hy => h y (by simp [hy])]

theorem mapP_congr {g g' : Operand → Option D} : ∀ (xs : List (Nat × Operand)), (∀ x ∈ xs.map (·.2), g x = g' x) → mapP g xs = mapP g' xs
  | [], _ => rfl
  | (i, x) :: xs, h => by
    simp only [mapP]
    rw [h x (by simp), mapP_congr xs fun y hy => h y (by simp at hy ⊢; exact .inr hy)]

theorem optG_congr {g g' : Operand → Option D} (x : Option Operand) (h : ∀ y ∈ x.toArray, g y = g' y) : optG g x = optG g' x := by
  cases x with
  | none => rfl
  | some x => simp only [optG]; rw [h x (by simp)]

theorem evR_congr {op : Op} {g g' : Operand → Option D} {h : List Blk} (hg : ∀ x ∈ op.operands, g x = g' x) : evR P op g h = evR P op g' h := by
  unfold evR
  split <;> simp only [Op.operands] at hg
  case h_4 t ps => rw [mapP_congr ps.toList fun x hx => hg x (by simpa using hx)]
  case h_10 t x lo hi mx =>
    rw [hg x (by simp), optG_congr lo fun y hy => hg y (by simp at hy ⊢; simp [hy]), optG_congr hi fun y hy => hg y (by simp at hy ⊢; simp [hy]), optG_congr mx fun y hy => hg y (by simp at hy ⊢; simp [hy])]
  case h_17 f first cap => rw [mapG_congr first.toList fun x hx => hg x (by simp at hx ⊢; exact .inl hx), mapG_congr cap.toList fun x hx => hg x (by simp at hx ⊢; exact .inr hx)]
  case h_18 b args ats => rw [mapG_congr args.toList fun x hx => hg x (by simp [Call.operands] at hx ⊢; exact hx)]
  all_goals first
    | rfl
    | (rw [hg _ (by simp)]; done)
    | (rw [hg _ (by simp), hg _ (by simp)]; done)
    | (rename_i a b c; rw [hg a (by simp), hg b (by simp), hg c (by simp)])

theorem evW_congr {op : Op} {g g' : Operand → Option D} {h : List Blk} (hg : ∀ x ∈ op.operands, g x = g' x) : evW P op g h = evW P op g' h := by
  unfold evW
  split <;> simp only [Op.operands] at hg
  case h_4 t len ps => rw [mapP_congr ps.toList fun x hx => hg x (by simpa using hx)]
  case h_7 t x lo hi =>
    rw [hg x (by simp), optG_congr lo fun y hy => hg y (by simp at hy ⊢; simp [hy]), optG_congr hi fun y hy => hg y (by simp at hy ⊢; simp [hy])]
  case h_10 args ats => rw [mapG_congr args.toList fun x hx => hg x (by simp [Call.operands] at hx ⊢; exact hx)]
  all_goals first
    | rfl
    | (rw [hg _ (by simp)]; done)
    | (rename_i a b; rw [hg a (by simp), hg b (by simp)]; done)

end
end Go.Ab
