/- The engine's own small code: types looked up once, positions struck; what it asks, with each condition as a thing to be shown. -/
import Derived.Test.YtamckclacocifaaAb22
namespace Go.Ab

inductive Ox where
  | t (i : Nat)
  | c (d : D)
  | f (g : FuncId)

def rd (t : Tm) : Ox → Option D
  | .t i => t i
  | .c d => some d
  | .f g => some (.fn g [] [])

def rx : Operand → Option Ox
  | .tmp i => some (.t i)
  | .const v => match constD v with
    | some d => some (.c d)
    | none => none
  | .func f => some (.f f)
  | .global _ => none

inductive IOp where
  | mv (x : Ox)
  | pick (c a b : Ox)
  | bin (op : BinOp) (bt : Bool) (x y : Ox)
  | un (op : UnOp) (x : Ox)
  | cvi (k : IntKind) (x : Ox)
  | cvs (x : Ox)
  | b2s (x : Ox)
  | s2b (e : TypeId) (x : Ox)
  | fa (o : Nat) (x : Ox)
  | fld (i : TI) (o : Nat) (x : Ox)
  | iaS (sz : Nat) (x i : Ox)
  | iaA (n sz : Nat) (x i : Ox)
  | ixS (x i : Ox)
  | ixA (n : Nat) (ti : TI) (x i : Ox)
  | ext (k : Nat) (x : Ox)
  | ld (ti : TI) (x : Ox)
  | nc (x : Ox)
  | slS (x : Ox) (lo hi : Option Ox)
  | slL (sz : Nat) (x : Ox) (lo hi mx : Option Ox)
  | slA (n : Nat) (x : Ox) (lo hi : Option Ox)
  | mki (ty : TypeId) (x : Ox)
  | mkf (f : FuncId) (first cap : List Ox)
  | build (pl : List (Nat × Nat)) (zs : List D) (ps : List (Nat × Ox))
  | lenS (x : Ox)
  | lenL (x : Ox)
  | mn (x y : Ox)
  | mx (x y : Ox)
  | st (ti : TI) (a x : Ox)
  | al (z : D)
  | bx (x : Ox)
  | bsl (e : TypeId) (sz : Nat) (xs : List Ox)
  | mks (e : TypeId) (sz bytes : Nat) (z : D) (l c : Ox)
  | rng (x : Ox)
  | nx (x : Ox)
  | app (e : TypeId) (sz bytes : Nat) (s x : Ox)
  | call (f : Ox) (xs : List Ox)
  | pcall (f : Ox) (xs : List Ox)

inductive IC where
  | reg (ops : List (Option Nat × IOp × Option (Nat × Bool)))
  | seq (a b : IC)
  | cond (x : Ox) (a b : IC)
  | blk (id : Nat) (a : IC)
  | loop (a : IC)
  | exit (id : Nat)
  | ret
  | skip

/-- A fork. -/
structure Br (b : Bool) (A B : Prop) : Prop where
  t : b = true → A
  f : b = false → B

/-- Something to be shown on the way. -/
structure Need (p K : Prop) : Prop where
  h : p
  k : K

/-- A datum, by whatever name it is to be called. -/
inductive Ex1 {β : Type} (e : β) (K : β → Prop) : Prop where
  | mk (c : β) (h : c = e) (k : K c)

/-- A datum that has to be there. -/
inductive Got {β : Type} (x : Option β) (K : β → Prop) : Prop where
  | mk (y : β) (h : x = some y) (k : K y)

/-- A call. -/
structure Cl (p : Prop) : Prop where
  h : p

def brw (b want : Bool) (A B : Prop) : Prop :=
  match want with
  | true => Br b A B
  | false => Br b B A

def ikEq : IntKind → IntKind → Bool
  | .i8, .i8 | .i16, .i16 | .i32, .i32 | .i64, .i64 | .u8, .u8 | .u16, .u16 | .u32, .u32 | .u64, .u64 => true
  | _, _ => false

def onB (b : Bool) (p : Prop) : Prop :=
  match b with
  | true => p
  | false => False

def onS {β : Type} (x : Option β) (p : β → Prop) : Prop :=
  match x with
  | some v => p v
  | none => False

def iint (op : BinOp) (k : IntKind) (a : Int) (k' : IntKind) (b : Int) (K : D → Prop) : Prop :=
  match op with
  | .shl => Need (0 ≤ b) (Ex1 (k.wrap (a * 2 ^ min b.toNat k.bits)) fun c => K (.int k c))
  | .shr => Need (0 ≤ b) (Ex1 (a.fdiv (2 ^ min b.toNat k.bits)) fun c => K (.int k c))
  | .add => onB (ikEq k k') (Ex1 (k.wrap (a + b)) fun c => K (.int k c))
  | .sub => onB (ikEq k k') (Ex1 (k.wrap (a - b)) fun c => K (.int k c))
  | .mul => onB (ikEq k k') (Ex1 (k.wrap (a * b)) fun c => K (.int k c))
  | .quo => onB (ikEq k k') (Need (b ≠ 0) (Ex1 (k.wrap (a.tdiv b)) fun c => K (.int k c)))
  | .rem => onB (ikEq k k') (Need (b ≠ 0) (Ex1 (a.tmod b) fun c => K (.int k c)))
  | .and => onB (ikEq k k') (Ex1 (bitI k (· &&& ·) a b) fun c => K (.int k c))
  | .or => onB (ikEq k k') (Ex1 (bitI k (· ||| ·) a b) fun c => K (.int k c))
  | .xor => onB (ikEq k k') (Ex1 (bitI k (· ^^^ ·) a b) fun c => K (.int k c))
  | .andNot => onB (ikEq k k') (Ex1 (bitI k (fun x y => x &&& ~~~y) a b) fun c => K (.int k c))
  | .eql => onB (ikEq k k') (K (.bool (a == b)))
  | .neq => onB (ikEq k k') (K (.bool (a != b)))
  | .lss => onB (ikEq k k') (K (.bool (decide (a < b))))
  | .leq => onB (ikEq k k') (K (.bool (decide (a ≤ b))))
  | .gtr => onB (ikEq k k') (K (.bool (decide (a > b))))
  | .geq => onB (ikEq k k') (K (.bool (decide (a ≥ b))))

def istr (op : BinOp) (a b : List UInt8) (K : D → Prop) : Prop :=
  match op with
  | .add => Need (a.length + b.length ≤ 9223372036854775807) (K (.str (a ++ b)))
  | .eql => K (.bool (a == b))
  | .neq => K (.bool (!(a == b)))
  | .lss => K (.bool (Op.bytesLess a b))
  | .leq => K (.bool (Op.bytesLess a b || a == b))
  | .gtr => K (.bool (!(Op.bytesLess a b || a == b)))
  | .geq => K (.bool (!(Op.bytesLess a b)))
  | _ => False

def ibin (op : BinOp) (bt : Bool) (x y : D) (K : D → Prop) : Prop :=
  match x, y with
  | .int k a, .int k' b => iint op k a k' b K
  | .str a, .str b => istr op a b K
  | .bool a, .bool b => onB bt (onS (binB op a b) K)
  | _, _ => False

def iun (op : UnOp) (x : D) (K : D → Prop) : Prop :=
  match x with
  | .int k n => match op with
    | .neg => Ex1 (k.wrap (0 - n)) fun c => K (.int k c)
    | .xor => Ex1 (bitI k (· ^^^ ·) (if k.signed then -1 else k.max) n) fun c => K (.int k c)
    | _ => False
  | .bool b => match op with
    | .not => K (.bool (!b))
    | _ => False
  | _ => False

/-- The elements that a slice holds: to be shown where they stand in the memory. -/
def isrc (x : D) (h : List Blk) (K : List D → Prop) : Prop :=
  match x with
  | .list xs => K xs
  | .nils => K []
  | .str s => K (s.map encB)
  | .ref id n => match h[id]? with
    | some (.slice _ _ xs) => Need (xs.length = n) (K xs)
    | _ => False
  | _ => False

def iidx (sz : Nat) (x i : D) (h : List Blk) (K : D → Prop) : Prop :=
  match i with
  | .int _ n => match x with
    | .list xs => Need (0 ≤ n ∧ n < xs.length) (Got xs[n.toNat]? fun y => Need (y.cells.length = sz) (K (.pd y.cells)))
    | .ref id m => match h[id]? with
      | some (.slice esz _ xs) => Need (esz = sz ∧ xs.length = m) (Need (0 ≤ n ∧ n < xs.length) (K (.eptr id m esz n.toNat 0)))
      | _ => False
    | _ => False
  | _ => False

def ibnd (d : Option D) (dflt up : Nat) (K : Nat → Prop) : Prop :=
  match d with
  | none => K dflt
  | some (.int _ n) => Need (0 ≤ n ∧ n ≤ (up : Int)) (K n.toNat)
  | some _ => False

/-- A load through a pointer into a slice of ours. -/
def ild (ti : TI) (x : D) (h : List Blk) (K : D → Prop) : Prop :=
  match x with
  | .pd cs => onS (partD ti 0 cs) K
  | .ptr id off => match h[id]? with
    | some (.box cs) => onS (partD ti 0 (cs.drop off)) K
    | _ => False
  | .eptr id n esz k off => match h[id]? with
    | some (.slice esz' _ xs) => Need (esz' = esz ∧ xs.length = n) (Got xs[k]? fun y => onS (partD ti 0 (y.cells.drop off)) K)
    | _ => False
  | _ => False

def ist (ti : TI) (a x : D) (h : List Blk) (K : List Blk → Prop) : Prop :=
  match a with
  | .ptr id off => match h[id]? with
    | some (.box cs) => Need (x.good = true ∧ x.cells.length = ti.size ∧ off + ti.size ≤ cs.length) (K (h.set id (.box (putAt cs off x.cells))))
    | _ => False
  | .eptr id n esz k off => match h[id]? with
    | some (.slice esz' ty xs) => Need (esz' = esz ∧ xs.length = n) (Got xs[k]? fun y => Need (x.good = true ∧ x.cells.length = ti.size ∧ off + ti.size ≤ y.cells.length) (K (h.set id (.slice esz ty (xs.set k (reD y (putAt y.cells off x.cells)))))))
    | _ => False
  | _ => False

def ilen (x : D) (K : D → Prop) : Prop :=
  match x with
  | .list xs => K (.int .i64 xs.length)
  | .ref _ n => K (.int .i64 n)
  | .nils => K (.int .i64 0)
  | _ => False

def ib2s (x : D) (h : List Blk) (K : D → Prop) : Prop :=
  match x with
  | .list xs => Got (bytesD xs) fun l => K (.str l)
  | .ref id n => match h[id]? with
    | some (.slice _ _ xs) => Need (xs.length = n) (Got (bytesD xs) fun l => K (.str l))
    | _ => False
  | _ => False

def ix2 (x y : Option D) (K : D → D → Prop) : Prop :=
  match x, y with
  | some a, some b => K a b
  | _, _ => False

def imin (x y : D) (K : D → Prop) : Prop :=
  match x, y with
  | .int k a, .int k' b => onB (ikEq k k') (K (.int k (if b < a then b else a)))
  | _, _ => False

def imax (x y : D) (K : D → Prop) : Prop :=
  match x, y with
  | .int k a, .int k' b => onB (ikEq k k') (K (.int k (if b > a then b else a)))
  | _, _ => False

def iapp (e : TypeId) (sz bytes : Nat) (s x : D) (h : List Blk) (K : D → List Blk → Prop) : Prop :=
  isrc x h fun ys => Need (szAll sz ys = true ∧ goodAll ys = true) <|
    match s with
    | .nils => Need (ys.length * bytes ≤ 140737488355328 ∧ ys.length ≤ 4611686018427387904) (K (.ref h.length ys.length) (h ++ [.slice sz e ys]))
    | .ref id n => match h[id]? with
      | some (.slice esz ty xs) => Need (esz = sz ∧ ty = e ∧ xs.length = n) (Need ((n + ys.length) * bytes ≤ 140737488355328 ∧ n + ys.length ≤ 4611686018427387904) (K (.ref id (n + ys.length)) (h.set id (.slice esz ty (xs ++ ys)))))
      | _ => False
    | _ => False

def rdL (t : Tm) : List Ox → Option (List D)
  | [] => some []
  | x :: xs => match rd t x with
    | none => none
    | some d => match rdL t xs with
      | none => none
      | some ds => some (d :: ds)

def rdP (t : Tm) : List (Nat × Ox) → Option (List (Nat × D))
  | [] => some []
  | (i, x) :: xs => match rd t x with
    | none => none
    | some d => match rdP t xs with
      | none => none
      | some ds => some ((i, d) :: ds)

def rdO (t : Tm) : Option Ox → Option (Option D)
  | none => some none
  | some x => match rd t x with
    | none => none
    | some d => some (some d)

def iop (P : Program) (o : IOp) (K : Option D → List Blk → Prop) (t : Tm) (h : List Blk) : Prop :=
  match o with
  | .mv x => onS (rd t x) fun d => K (some d) h
  | .pick c a b => match rd t c with
    | some (.bool p) => Br p (onS (rd t a) fun d => K (some d) h) (onS (rd t b) fun d => K (some d) h)
    | _ => False
  | .bin op bt x y => ix2 (rd t x) (rd t y) fun a b => ibin op bt a b fun d => K (some d) h
  | .un op x => onS (rd t x) fun a => iun op a fun d => K (some d) h
  | .cvi k x => match rd t x with
    | some (.int _ n) => Ex1 (k.wrap n) fun c => K (some (.int k c)) h
    | _ => False
  | .cvs x => match rd t x with
    | some (.str s) => K (some (.str s)) h
    | _ => False
  | .b2s x => onS (rd t x) fun a => ib2s a h fun d => K (some d) h
  | .s2b e x => match rd t x with
    | some (.str s) => K (some (.ref h.length s.length)) (h ++ [.slice 1 e (s.map encB)])
    | _ => False
  | .fa o x => onS (rd t x) fun a => onS (movD a o) fun d => K (some d) h
  | .fld i o x => match rd t x with
    | some (.agg cs) => onS (partD i o cs) fun d => K (some d) h
    | _ => False
  | .iaS sz x i => ix2 (rd t x) (rd t i) fun a b => iidx sz a b h fun d => K (some d) h
  | .iaA n sz x i => match rd t i with
    | some (.int _ k) => Need (0 ≤ k ∧ k < (n : Int)) (onS (rd t x) fun a => onS (movD a (k.toNat * sz)) fun d => K (some d) h)
    | _ => False
  | .ixS x i => match rd t x, rd t i with
    | some (.str s), some (.int _ n) => Need (0 ≤ n ∧ n < (s.length : Int)) (K (some (.int .u8 (s.getD n.toNat 0).toNat)) h)
    | _, _ => False
  | .ixA n ti x i => match rd t x, rd t i with
    | some (.agg cs), some (.int _ k) => Need (0 ≤ k ∧ k < (n : Int)) (Got (partD ti (k.toNat * ti.size) cs) fun d => K (some d) h)
    | _, _ => False
  | .ext k x => match rd t x with
    | some (.tup ds) => onS ds[k]? fun d => K (some d) h
    | _ => False
  | .ld ti x => onS (rd t x) fun a => ild ti a h fun d => K (some d) h
  | .nc x => onS (rd t x) fun a => onB (notNil a) (K (some a) h)
  | .slS x lo hi => match rd t x with
    | some (.str s) => onS (rdO t lo) fun l => onS (rdO t hi) fun r => ibnd r s.length s.length fun b => ibnd l 0 b fun a => K (some (.str ((s.drop a).take (b - a)))) h
    | _ => False
  | .slL sz x lo hi mx => match rd t x with
    | some (.list xs) => onS (rdO t lo) fun l => onS (rdO t hi) fun r => onS (rdO t mx) fun m => Need (szAll sz xs = true ∧ (m.isSome = true → r.isSome = true)) <|
        ibnd m xs.length xs.length fun c => ibnd r xs.length c fun b => ibnd l 0 b fun a => K (some (.list ((xs.drop a).take (b - a)))) h
    | _ => False
  | .slA n x lo hi => match rd t x with
    | some (.ptr id off) => match h[id]? with
      | some (.box cs) => onS (rdO t lo) fun l => onS (rdO t hi) fun r => Need (off + n ≤ cs.length) <| ibnd r n n fun b => ibnd l 0 b fun a =>
          K (some (.list ((((cs.drop off).take n).drop a).take (b - a)))) (h.set id .dead)
      | _ => False
    | _ => False
  | .mki ty x => onS (rd t x) fun a => K (some (.iface ty a)) h
  | .mkf f first cap => onS (rdL t first) fun a => onS (rdL t cap) fun b => K (some (.fn f a b)) h
  | .build pl zs ps => onS (rdP t ps) fun l => onS (fillD pl zs l) fun cs => K (some (.agg cs)) h
  | .lenS x => match rd t x with
    | some (.str s) => K (some (.int .i64 s.length)) h
    | _ => False
  | .lenL x => onS (rd t x) fun a => ilen a fun d => K (some d) h
  | .mn x y => ix2 (rd t x) (rd t y) fun a b => imin a b fun d => K (some d) h
  | .mx x y => ix2 (rd t x) (rd t y) fun a b => imax a b fun d => K (some d) h
  | .st ti a x => ix2 (rd t a) (rd t x) fun p d => ist ti p d h fun h' => K none h'
  | .al z => K (some (.ptr h.length 0)) (h ++ [.box z.cells])
  | .bx x => onS (rd t x) fun d => onB d.good (K (some (.ptr h.length 0)) (h ++ [.box d.cells]))
  | .bsl e sz xs => onS (rdL t xs) fun ds => Need (goodAll ds = true) (Got (sealGs ds h) fun p => Need (szAll sz p.1 = true) (K (some (.ref p.2.length p.1.length)) (p.2 ++ [.slice sz e p.1])))
  | .mks e sz bytes z l c => match rd t l, rd t c with
    | some (.int _ n), some (.int _ m) => Need (0 ≤ n ∧ n ≤ m ∧ m ≤ 4611686018427387904 ∧ m * bytes ≤ 140737488355328) (K (some (.ref h.length n.toNat)) (h ++ [.slice sz e (List.replicate n.toNat z)]))
    | _, _ => False
  | .rng x => match rd t x with
    | some (.str s) => K (some (.hnd h.length)) (h ++ [.iter s 0])
    | _ => False
  | .nx x => match rd t x with
    | some (.hnd id) => match h[id]? with
      | some (.iter s pos) => Br (decide (pos < s.length)) (K (some (.tup [.bool true, .int .i64 pos, .int .i32 (Utf8.decode ⟨s.toArray⟩ pos).1])) (h.set id (.iter s (pos + (Utf8.decode ⟨s.toArray⟩ pos).2)))) (K (some (.tup [.bool false])) h)
      | _ => False
    | _ => False
  | .app e sz bytes s x => ix2 (rd t s) (rd t x) fun a b => iapp e sz bytes a b h fun d h' => K (some d) h'
  | .call f xs => match rd t f with
    | some (.fn fid fd cd) => onS (rdL t xs) fun ds => Cl (Spec P fid (fd ++ ds ++ cd) h fun r h' => K (some r) h')
    | _ => False
  | .pcall f xs => match rd t f with
    | some (.fn fid fd cd) => onS (rdL t xs) fun ds => Cl (PCall P fid (fd ++ ds ++ cd) fun r => K (some r) h)
    | _ => False

abbrev Ops := List (Option Nat × IOp × Option (Nat × Bool))
abbrev KT := Tm → List Blk → Prop

def istep (P : Program) (dst : Option Nat) (o : IOp) (g : Option (Nat × Bool)) (ih : KT → KT) (K : KT) (t : Tm) (h : List Blk) : Prop :=
  match g with
  | none => iop P o (fun x h' => ih K (put t dst x) h') t h
  | some (k, want) => match t k with
    | some (.bool b) => brw b want (iop P o (fun x h' => ih K (put t dst x) h') t h) (ih K (put t dst (some .undef)) h)
    | some .undef => ih K (put t dst (some .undef)) h
    | _ => False

/-- The recursors are typed out: what is left after a step then looks the same to the checker as to the elaborator. -/
noncomputable def iregs (P : Program) (l : Ops) : KT → KT :=
  List.rec (motive := fun _ => KT → KT) (fun K t h => K t h) (fun op _ ih K t h => istep P op.1 op.2.1 op.2.2 ih K t h) l

def iw (P : Program) (n0 : Nat) : IC → (X → Tm → List Blk → Prop) → Tm → List Blk → Prop
  | .skip, Q, t, h => Q .norm t h
  | .reg ops, Q, t, h => iregs P ops (Q .norm) t h
  | .seq a b, Q, t, h => iw P n0 a (thn (fun t1 h1 => ∃ t2 h2, Weak n0 t1 h1 t2 h2 ∧ iw P n0 b Q t2 h2) Q) t h
  | .cond c a b, Q, t, h => match rd t c with
    | some (.bool p) => Br p (iw P n0 a Q t h) (iw P n0 b Q t h)
    | _ => False
  | .blk id b, Q, t, h => iw P n0 b (inb id Q) t h
  | .loop b, Q, t, h => ∃ n t' h', Weak n0 t h t' h' ∧ lp n0 (fun K => iw P n0 b (thn K Q)) n t' h'
  | .exit id, Q, t, h => Q (.exit id) t h
  | .ret, Q, t, h => Q .ret t h

theorem iregs_some {P : Program} {dst : Option Nat} {o : IOp} {k : Nat} {want : Bool} {rest : Ops} {K : KT} {t : Tm} {h : List Blk} : iregs P ((dst, o, some (k, want)) :: rest) K t h = match t k with
    | some (.bool b) => brw b want (iop P o (fun x h' => iregs P rest K (put t dst x) h') t h) (iregs P rest K (put t dst (some .undef)) h)
    | some .undef => iregs P rest K (put t dst (some .undef)) h
    | _ => False := rfl

theorem iw_cond {P : Program} {n0 : Nat} {x : Ox} {a b : IC} {Q : X → KT} {t : Tm} {h : List Blk} : iw P n0 (.cond x a b) Q t h = match rd t x with
    | some (.bool p) => Br p (iw P n0 a Q t h) (iw P n0 b Q t h)
    | _ => False := rfl

end Go.Ab
