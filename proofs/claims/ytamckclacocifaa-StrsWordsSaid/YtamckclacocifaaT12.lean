import Derived.Test.YtamckclacocifaaT11
import Derived.Laws.RangeAny
namespace Go.Proofs.Ytamckclacocifaa
open Go.Ab

theorem dec_both {s : List UInt8} {pos : Nat} (h : pos < s.length) :
    ((s.getD pos 0).toNat < 128 ∧ (Utf8.decode ⟨s.toArray⟩ pos).1 = (s.getD pos 0).toNat ∧ (Utf8.decode ⟨s.toArray⟩ pos).2 = 1) ∨ (128 ≤ (s.getD pos 0).toNat ∧ 128 ≤ (Utf8.decode ⟨s.toArray⟩ pos).1 ∧ 1 ≤ (Utf8.decode ⟨s.toArray⟩ pos).2) := by
  have hz : pos < ByteArray.size ⟨s.toArray⟩ := by show pos < s.toArray.size; simpa using h
  have e : s.getD pos 0 = (⟨s.toArray⟩ : ByteArray)[pos]'hz := by
    show _ = s.toArray[pos]'(by simpa using h)
    simp [h]
  rw [e]
  by_cases ha : ((⟨s.toArray⟩ : ByteArray)[pos]'hz).toNat < 128
  · rw [decode_ascii _ _ hz ha]; exact .inl ⟨ha, rfl, rfl⟩
  · exact .inr ⟨by omega, decode_high _ _ hz (by omega)⟩

def isD (b : UInt8) : Prop := 48 ≤ b.toNat ∧ b.toNat ≤ 57
instance (b : UInt8) : Decidable (isD b) := inferInstanceAs (Decidable (_ ∧ _))
def val (l : List UInt8) : Nat := l.foldl (fun a b => 10 * a + (b.toNat - 48)) 0
def bodyOf (s : List UInt8) : List UInt8 := if s.head? = some 45 then s.tail else s
def badB (s : List UInt8) : Bool := decide (bodyOf s = [] ∨ ((bodyOf s).head? = some 48 ∧ s ≠ [48]) ∨ ∃ b ∈ bodyOf s, ¬ isD b)
def readC (s : List UInt8) : Int := if badB s = true then 8 else if 1000000 < val (bodyOf s) then 1 else 0
def readR (s : List UInt8) : Int := if badB s = true then 0 else if 1000000 < val (bodyOf s) then 0 else if (bodyOf s).length < s.length then -(val (bodyOf s) : Int) else val (bodyOf s)

theorem val_snoc (l : List UInt8) (b : UInt8) : val (l ++ [b]) = 10 * val l + (b.toNat - 48) := by simp [val]
theorem val_take {l : List UInt8} {i : Nat} (h : i < l.length) : val (l.take (i + 1)) = 10 * val (l.take i) + ((l.getD i 0).toNat - 48) := by rw [take_getD h, val_snoc]
theorem val_mono (l : List UInt8) : ∀ (n i : Nat), i + n = l.length → val (l.take i) ≤ val l
  | 0, i, h => by rw [List.take_of_length_le (by omega)]; omega
  | n + 1, i, h => by
    have h1 := val_mono l n (i + 1) (by omega)
    rw [val_take (by omega)] at h1
    omega

theorem mem_getD {s : List UInt8} {i : Nat} (h : i < s.length) : s.getD i 0 ∈ s := by simp [h]
theorem digits_take {s : List UInt8} {i : Nat} (h : i < s.length) (hd : ∀ b ∈ s.take i, isD b) (hb : isD (s.getD i 0)) : ∀ b ∈ s.take (i + 1), isD b := by
  intro b hm
  rw [take_getD h, List.mem_append, List.mem_singleton] at hm
  rcases hm with hm | rfl
  · exact hd b hm
  · exact hb

theorem head_getD {s : List UInt8} (h : s ≠ []) : s.head? = some (s.getD 0 0) := by cases s <;> simp_all
theorem bodyOf_length (s : List UInt8) : (bodyOf s).length ≤ s.length := by
  unfold bodyOf; split <;> simp

theorem bad_digit {s : List UInt8} {i : Nat} (h : i < (bodyOf s).length) (hb : ¬ isD ((bodyOf s).getD i 0)) : badB s = true :=
  decide_eq_true (.inr (.inr ⟨_, mem_getD h, hb⟩))

set_option maxHeartbeats 4000000 in
theorem ps32 (s : List UInt8) (hs : s.length ≤ 1000000) : PSpec Try.prog 32 [.str s] (.tup [.int .i64 (readR s), .int .i64 (readC s)]) := by
  refine PSpec.of_iw fac32 (by simp) ?_
  have hbl := bodyOf_length s
  refine iw_seq1 True [(0, .str s)] [] (fun _ => ?_) fun K hK => hK trivial _ _ (Weak.of ⟨rfl, trivial⟩ rfl)
  refine iw_seq1 True [(0, .str s), (4, .str s)] [] (fun _ => ?_) fun K hK => hK trivial _ _ (Weak.of ⟨rfl, rfl, trivial⟩ rfl)
  refine iw_seq1 True [(0, .str s), (4, .str (bodyOf s))] [] (fun _ => ?_) fun K hK => ?_
  · refine iw_seq1 (bodyOf s ≠ [] ∧ ((bodyOf s).getD 0 0 = 48 → s = [48])) [(0, .str s), (4, .str (bodyOf s))] [] (fun h1 => ?_) fun K hK => ?_
    · refine iw_seq1 True [(0, .str s), (4, .str (bodyOf s)), (5, .int .i64 (0 : Nat))] [] (fun _ => ?_) fun K hK => hK trivial _ _ (Weak.of ⟨rfl, rfl, rfl, trivial⟩ rfl)
      refine iw_seq1 (∀ b ∈ bodyOf s, isD b) [(0, .str s), (4, .str (bodyOf s)), (5, .int .i64 ((min (val (bodyOf s)) 1000001 : Nat) : Int))] [] (fun h2 => ?_) fun K hK => ?_
      · have hbad : badB s = false := by
          refine decide_eq_false ?_
          rw [not_or, not_or]
          refine ⟨h1.1, fun h => h.2 (h1.2 ?_), fun ⟨b, hb, hn⟩ => hn (h2 b hb)⟩
          rw [head_getD h1.1] at h
          exact Option.some.inj h.1
        have hnb : ¬ badB s = true := by rw [hbad]; simp
        repeat' ((conv => whnf); first
          | (refine sq_keep ?_)
          | (refine Br.yes ?_)
          | (refine Br.no ?_)
          | (refine Br.decT (by assumption) ?_)
          | (refine Br.decF (by assumption) ?_)
          | (refine Br.decF (by omega) ?_)
          | (refine Br.decT (by omega) ?_)
          | (refine Br.dec (fun h => ?_) (fun h => ?_))
          | (refine Br.eqT (by assumption) ?_)
          | (refine Br.eqF (by assumption) ?_)
          | (refine Br.neT (by assumption) ?_)
          | (refine Br.neF (by assumption) ?_)
          | (refine Br.eqT (by omega) ?_)
          | (refine Br.eqF (by omega) ?_)
          | (refine Br.neT (by omega) ?_)
          | (refine Br.neF (by omega) ?_)
          | (refine Br.eqI (fun h => ?_) (fun h => ?_))
          | (refine Br.neI (fun h => ?_) (fun h => ?_))
          | (refine Br.sT (by assumption) ?_)
          | (refine Br.sF (by assumption) ?_)
          | (refine Br.snT (by assumption) ?_)
          | (refine Br.snF (by assumption) ?_)
          | (refine Br.eqS (fun h => ?_) (fun h => ?_))
          | (refine Br.neS (fun h => ?_) (fun h => ?_))
          | (refine Br.not ?_)
          | (refine Br.anyT (by assumption) ?_)
          | (refine Br.anyF (by assumption) ?_)
          | (refine Br.any (fun h => ?_) (fun h => ?_))
          | (refine Ex1.b64 ?_)
          | (refine Ex1.b64add (by omega) (by omega) ?_)
          | (refine Ex1.b8 ?_)
          | (refine Ex1.i64 (by omega) (by omega) ?_)
          | (refine Ex1.u8 (by omega) (by omega) ?_)
          | (refine Ex1.i32 (by omega) (by omega) ?_)
          | (refine Ex1.u64 (by omega) (by omega) ?_)
          | (refine Need.mk ⟨rfl, rfl⟩ ?_)
          | (refine Need.mk rfl ?_)
          | (refine Need.mk ⟨rfl, rfl, Nat.le_refl _⟩ ?_)
          | (refine Got.by _ (bytesD_enc _) ?_)
          | (refine Need.mk (by omega) ?_)
          | (refine Got.by _ rfl ?_)
          | (refine Need.mk (by first | (simp; omega) | (simp; done) | fail) ?_)
          | (refine Need.mk ⟨rfl, rfl, by first | (simp; omega) | (simp; done) | fail⟩ ?_)
          | (refine Need.mk ⟨rfl, by first | (simp; omega) | (simp; done) | fail⟩ ?_)
          | (refine Need.mk ⟨by first | (simp; omega) | (simp; done) | fail, by first | (simp; omega) | (simp; done) | fail⟩ ?_)
          | fail)
        all_goals conv => whnf
        · have hv : 1000000 < val (bodyOf s) := by omega
          rw [readR, readC, if_neg hnb, if_neg hnb, if_pos hv, if_pos hv]
        · have hv : ¬ 1000000 < val (bodyOf s) := by omega
          have hl : (bodyOf s).length < s.length := by omega
          rw [readR, readC, if_neg hnb, if_neg hnb, if_neg hv, if_neg hv, if_pos hl, Nat.min_eq_left (by omega)]
          congr 3; omega
        · have hv : ¬ 1000000 < val (bodyOf s) := by omega
          have hl : ¬ (bodyOf s).length < s.length := by omega
          rw [readR, readC, if_neg hnb, if_neg hnb, if_neg hv, if_neg hv, if_neg hl, Nat.min_eq_left (by omega)]
      · repeat' ((conv => whnf); first
  | (refine sq_keep ?_)
  | (refine Br.yes ?_)
  | (refine Br.no ?_)
  | (refine Br.decT (by assumption) ?_)
  | (refine Br.decF (by assumption) ?_)
  | (refine Br.decF (by omega) ?_)
  | (refine Br.decT (by omega) ?_)
  | (refine Br.dec (fun h => ?_) (fun h => ?_))
  | (refine Br.eqT (by assumption) ?_)
  | (refine Br.eqF (by assumption) ?_)
  | (refine Br.neT (by assumption) ?_)
  | (refine Br.neF (by assumption) ?_)
  | (refine Br.eqT (by omega) ?_)
  | (refine Br.eqF (by omega) ?_)
  | (refine Br.neT (by omega) ?_)
  | (refine Br.neF (by omega) ?_)
  | (refine Br.eqI (fun h => ?_) (fun h => ?_))
  | (refine Br.neI (fun h => ?_) (fun h => ?_))
  | (refine Br.sT (by assumption) ?_)
  | (refine Br.sF (by assumption) ?_)
  | (refine Br.snT (by assumption) ?_)
  | (refine Br.snF (by assumption) ?_)
  | (refine Br.eqS (fun h => ?_) (fun h => ?_))
  | (refine Br.neS (fun h => ?_) (fun h => ?_))
  | (refine Br.not ?_)
  | (refine Br.anyT (by assumption) ?_)
  | (refine Br.anyF (by assumption) ?_)
  | (refine Br.any (fun h => ?_) (fun h => ?_))
  | (refine Ex1.b64 ?_)
  | (refine Ex1.b64add (by omega) (by omega) ?_)
  | (refine Ex1.b8 ?_)
  | (refine Ex1.i64 (by omega) (by omega) ?_)
  | (refine Ex1.u8 (by omega) (by omega) ?_)
  | (refine Ex1.i32 (by omega) (by omega) ?_)
  | (refine Ex1.u64 (by omega) (by omega) ?_)
  | (refine Need.mk ⟨rfl, rfl⟩ ?_)
  | (refine Need.mk rfl ?_)
  | (refine Need.mk ⟨rfl, rfl, Nat.le_refl _⟩ ?_)
  | (refine Got.by _ (bytesD_enc _) ?_)
  | (refine Need.mk (by omega) ?_)
  | (refine Got.by _ rfl ?_)
  | (refine Need.mk (by first | (simp; omega) | (simp; done) | fail) ?_)
  | (refine Need.mk ⟨rfl, rfl, by first | (simp; omega) | (simp; done) | fail⟩ ?_)
  | (refine Need.mk ⟨rfl, by first | (simp; omega) | (simp; done) | fail⟩ ?_)
  | (refine Need.mk ⟨by first | (simp; omega) | (simp; done) | fail, by first | (simp; omega) | (simp; done) | fail⟩ ?_)
  | fail)
        refine iw_loop (σ := Nat) (fun i => i ≤ (bodyOf s).length ∧ ∀ b ∈ (bodyOf s).take i, isD b) (fun i => (bodyOf s).length - i)
          (fun i => [(0, .str s), (4, .str (bodyOf s)), (5, .int .i64 ((min (val ((bodyOf s).take i)) 1000001 : Nat) : Int)), (30, .hnd 0)]) (fun i => [.iter (bodyOf s) i]) 0
          ⟨by omega, by simp⟩ (Weak.of ⟨rfl, rfl, rfl, rfl, trivial⟩ rfl) fun i hi K2 hK2 => ?_
        have hdec : i < (bodyOf s).length → _ := fun h => dec_both (s := bodyOf s) (pos := i) h
        by_cases hlt : i < (bodyOf s).length
        · replace hdec := hdec hlt
          conv => whnf
          generalize Utf8.decode ⟨(bodyOf s).toArray⟩ i = r at hdec ⊢
          obtain ⟨r, w⟩ := r
          simp only at hdec
          repeat' ((conv => whnf); first
            | (refine Br.decT hlt ?_)
            | (refine sq_keep ?_)
            | (refine Br.yes ?_)
            | (refine Br.no ?_)
            | (refine Br.decT (by assumption) ?_)
            | (refine Br.decF (by assumption) ?_)
            | (refine Br.decF (by omega) ?_)
            | (refine Br.decT (by omega) ?_)
            | (refine Br.dec (fun h => ?_) (fun h => ?_))
            | (refine Br.eqT (by assumption) ?_)
            | (refine Br.eqF (by assumption) ?_)
            | (refine Br.neT (by assumption) ?_)
            | (refine Br.neF (by assumption) ?_)
            | (refine Br.eqT (by omega) ?_)
            | (refine Br.eqF (by omega) ?_)
            | (refine Br.neT (by omega) ?_)
            | (refine Br.neF (by omega) ?_)
            | (refine Br.eqI (fun h => ?_) (fun h => ?_))
            | (refine Br.neI (fun h => ?_) (fun h => ?_))
            | (refine Br.sT (by assumption) ?_)
            | (refine Br.sF (by assumption) ?_)
            | (refine Br.snT (by assumption) ?_)
            | (refine Br.snF (by assumption) ?_)
            | (refine Br.eqS (fun h => ?_) (fun h => ?_))
            | (refine Br.neS (fun h => ?_) (fun h => ?_))
            | (refine Br.not ?_)
            | (refine Br.anyT (by assumption) ?_)
            | (refine Br.anyF (by assumption) ?_)
            | (refine Br.any (fun h => ?_) (fun h => ?_))
            | (refine Ex1.b64 ?_)
            | (refine Ex1.b64add (by omega) (by omega) ?_)
            | (refine Ex1.b8 ?_)
            | (refine Ex1.i64 (by omega) (by omega) ?_)
            | (refine Ex1.u8 (by omega) (by omega) ?_)
            | (refine Ex1.i32 (by omega) (by omega) ?_)
            | (refine Ex1.u64 (by omega) (by omega) ?_)
            | (refine Need.mk ⟨rfl, rfl⟩ ?_)
            | (refine Need.mk rfl ?_)
            | (refine Need.mk ⟨rfl, rfl, Nat.le_refl _⟩ ?_)
            | (refine Got.by _ (bytesD_enc _) ?_)
            | (refine Need.mk (by omega) ?_)
            | (refine Got.by _ rfl ?_)
            | (refine Need.mk (by first | (simp; omega) | (simp; done) | fail) ?_)
            | (refine Need.mk ⟨rfl, rfl, by first | (simp; omega) | (simp; done) | fail⟩ ?_)
            | (refine Need.mk ⟨rfl, by first | (simp; omega) | (simp; done) | fail⟩ ?_)
            | (refine Need.mk ⟨by first | (simp; omega) | (simp; done) | fail, by first | (simp; omega) | (simp; done) | fail⟩ ?_)
            | fail)
          all_goals conv => whnf
          · have hb : ¬ isD ((bodyOf s).getD i 0) := by unfold isD; simp only at h; omega
            rw [readR, readC, if_pos (bad_digit hlt hb), if_pos (bad_digit hlt hb)]
          · have hb : ¬ isD ((bodyOf s).getD i 0) := by unfold isD; simp only at h; omega
            rw [readR, readC, if_pos (bad_digit hlt hb), if_pos (bad_digit hlt hb)]
          · simp only at *
            have hw : w = 1 := by omega
            subst hw
            have hb : isD ((bodyOf s).getD i 0) := by unfold isD; omega
            refine hK2 (i + 1) (by omega) ⟨by omega, digits_take hlt hi.2 hb⟩ _ _ (Weak.of ⟨rfl, rfl, ?_, rfl, trivial⟩ rfl)
            show some (D.int _ (if (1000001 : Int) < 10 * ((min (val ((bodyOf s).take i)) 1000001 : Nat) : Int) + ((r : Int) - 48) then 1000001 else 10 * ((min (val ((bodyOf s).take i)) 1000001 : Nat) : Int) + ((r : Int) - 48))) = some (D.int _ _)
            rw [val_take hlt]
            congr 2
            split <;> omega
        · clear hdec
          have hil : i = (bodyOf s).length := by omega
          subst hil
          rw [List.take_length] at hi
          repeat' ((conv => whnf); first
            | (refine Br.decF hlt ?_)
            | (refine sq_keep ?_)
            | (refine Br.yes ?_)
            | (refine Br.no ?_)
            | (refine Br.decT (by assumption) ?_)
            | (refine Br.decF (by assumption) ?_)
            | (refine Br.decF (by omega) ?_)
            | (refine Br.decT (by omega) ?_)
            | (refine Br.dec (fun h => ?_) (fun h => ?_))
            | (refine Br.eqT (by assumption) ?_)
            | (refine Br.eqF (by assumption) ?_)
            | (refine Br.neT (by assumption) ?_)
            | (refine Br.neF (by assumption) ?_)
            | (refine Br.eqT (by omega) ?_)
            | (refine Br.eqF (by omega) ?_)
            | (refine Br.neT (by omega) ?_)
            | (refine Br.neF (by omega) ?_)
            | (refine Br.eqI (fun h => ?_) (fun h => ?_))
            | (refine Br.neI (fun h => ?_) (fun h => ?_))
            | (refine Br.sT (by assumption) ?_)
            | (refine Br.sF (by assumption) ?_)
            | (refine Br.snT (by assumption) ?_)
            | (refine Br.snF (by assumption) ?_)
            | (refine Br.eqS (fun h => ?_) (fun h => ?_))
            | (refine Br.neS (fun h => ?_) (fun h => ?_))
            | (refine Br.not ?_)
            | (refine Br.anyT (by assumption) ?_)
            | (refine Br.anyF (by assumption) ?_)
            | (refine Br.any (fun h => ?_) (fun h => ?_))
            | (refine Ex1.b64 ?_)
            | (refine Ex1.b64add (by omega) (by omega) ?_)
            | (refine Ex1.b8 ?_)
            | (refine Ex1.i64 (by omega) (by omega) ?_)
            | (refine Ex1.u8 (by omega) (by omega) ?_)
            | (refine Ex1.i32 (by omega) (by omega) ?_)
            | (refine Ex1.u64 (by omega) (by omega) ?_)
            | (refine Need.mk ⟨rfl, rfl⟩ ?_)
            | (refine Need.mk rfl ?_)
            | (refine Need.mk ⟨rfl, rfl, Nat.le_refl _⟩ ?_)
            | (refine Got.by _ (bytesD_enc _) ?_)
            | (refine Need.mk (by omega) ?_)
            | (refine Got.by _ rfl ?_)
            | (refine Need.mk (by first | (simp; omega) | (simp; done) | fail) ?_)
            | (refine Need.mk ⟨rfl, rfl, by first | (simp; omega) | (simp; done) | fail⟩ ?_)
            | (refine Need.mk ⟨rfl, by first | (simp; omega) | (simp; done) | fail⟩ ?_)
            | (refine Need.mk ⟨by first | (simp; omega) | (simp; done) | fail, by first | (simp; omega) | (simp; done) | fail⟩ ?_)
            | fail)
          all_goals conv => whnf
          exact hK hi.2 _ _ (Weak.cut' (g := [.iter (bodyOf s) (bodyOf s).length]) ⟨rfl, rfl, by show some (D.int _ _) = some (D.int _ _); rw [List.take_length], trivial⟩ rfl (by simp) (by simp) (by simp))
    · repeat' ((conv => whnf); first
  | (refine Need.mk ⟨by omega, by have := List.length_pos_iff.2 ‹_ ≠ ([] : List UInt8)›; omega⟩ ?_)
  | (refine sq_keep ?_)
  | (refine Br.yes ?_)
  | (refine Br.no ?_)
  | (refine Br.decT (by assumption) ?_)
  | (refine Br.decF (by assumption) ?_)
  | (refine Br.decF (by omega) ?_)
  | (refine Br.decT (by omega) ?_)
  | (refine Br.dec (fun h => ?_) (fun h => ?_))
  | (refine Br.eqT (by assumption) ?_)
  | (refine Br.eqF (by assumption) ?_)
  | (refine Br.neT (by assumption) ?_)
  | (refine Br.neF (by assumption) ?_)
  | (refine Br.eqT (by omega) ?_)
  | (refine Br.eqF (by omega) ?_)
  | (refine Br.neT (by omega) ?_)
  | (refine Br.neF (by omega) ?_)
  | (refine Br.eqI (fun h => ?_) (fun h => ?_))
  | (refine Br.neI (fun h => ?_) (fun h => ?_))
  | (refine Br.sT (by assumption) ?_)
  | (refine Br.sF (by assumption) ?_)
  | (refine Br.snT (by assumption) ?_)
  | (refine Br.snF (by assumption) ?_)
  | (refine Br.eqS (fun h => ?_) (fun h => ?_))
  | (refine Br.neS (fun h => ?_) (fun h => ?_))
  | (refine Br.not ?_)
  | (refine Br.anyT (by assumption) ?_)
  | (refine Br.anyF (by assumption) ?_)
  | (refine Br.any (fun h => ?_) (fun h => ?_))
  | (refine Ex1.b64 ?_)
  | (refine Ex1.b64add (by omega) (by omega) ?_)
  | (refine Ex1.b8 ?_)
  | (refine Ex1.i64 (by omega) (by omega) ?_)
  | (refine Ex1.u8 (by omega) (by omega) ?_)
  | (refine Ex1.i32 (by omega) (by omega) ?_)
  | (refine Ex1.u64 (by omega) (by omega) ?_)
  | (refine Need.mk ⟨rfl, rfl⟩ ?_)
  | (refine Need.mk rfl ?_)
  | (refine Need.mk ⟨rfl, rfl, Nat.le_refl _⟩ ?_)
  | (refine Got.by _ (bytesD_enc _) ?_)
  | (refine Need.mk (by omega) ?_)
  | (refine Got.by _ rfl ?_)
  | (refine Need.mk (by first | (simp; omega) | (simp; done) | fail) ?_)
  | (refine Need.mk ⟨rfl, rfl, by first | (simp; omega) | (simp; done) | fail⟩ ?_)
  | (refine Need.mk ⟨rfl, by first | (simp; omega) | (simp; done) | fail⟩ ?_)
  | (refine Need.mk ⟨by first | (simp; omega) | (simp; done) | fail, by first | (simp; omega) | (simp; done) | fail⟩ ?_)
  | fail)
      all_goals conv => whnf
      · have hb : badB s = true := decide_eq_true (.inl h)
        rw [readR, readC, if_pos hb, if_pos hb]
      · rename_i h0 h48
        have hb : badB s = true := decide_eq_true (.inr (.inl ⟨by rw [head_getD h0]; exact congrArg some (u8_int (y := 48) h48), h⟩))
        rw [readR, readC, if_pos hb, if_pos hb]
      · rename_i h0 h48
        exact hK ⟨h0, fun _ => h⟩ _ _ (Weak.of ⟨rfl, rfl, trivial⟩ rfl)
      · rename_i h0
        exact hK ⟨h0, fun e => absurd e (u8_ne (y := 48) h)⟩ _ _ (Weak.of ⟨rfl, rfl, trivial⟩ rfl)
  · repeat' ((conv => whnf); first
  | (refine Need.mk ⟨by omega, by have := List.length_pos_iff.2 ‹_ ≠ ([] : List UInt8)›; omega⟩ ?_)
  | (refine sq_keep ?_)
  | (refine Br.yes ?_)
  | (refine Br.no ?_)
  | (refine Br.decT (by assumption) ?_)
  | (refine Br.decF (by assumption) ?_)
  | (refine Br.decF (by omega) ?_)
  | (refine Br.decT (by omega) ?_)
  | (refine Br.dec (fun h => ?_) (fun h => ?_))
  | (refine Br.eqT (by assumption) ?_)
  | (refine Br.eqF (by assumption) ?_)
  | (refine Br.neT (by assumption) ?_)
  | (refine Br.neF (by assumption) ?_)
  | (refine Br.eqT (by omega) ?_)
  | (refine Br.eqF (by omega) ?_)
  | (refine Br.neT (by omega) ?_)
  | (refine Br.neF (by omega) ?_)
  | (refine Br.eqI (fun h => ?_) (fun h => ?_))
  | (refine Br.neI (fun h => ?_) (fun h => ?_))
  | (refine Br.sT (by assumption) ?_)
  | (refine Br.sF (by assumption) ?_)
  | (refine Br.snT (by assumption) ?_)
  | (refine Br.snF (by assumption) ?_)
  | (refine Br.eqS (fun h => ?_) (fun h => ?_))
  | (refine Br.neS (fun h => ?_) (fun h => ?_))
  | (refine Br.not ?_)
  | (refine Br.anyT (by assumption) ?_)
  | (refine Br.anyF (by assumption) ?_)
  | (refine Br.any (fun h => ?_) (fun h => ?_))
  | (refine Ex1.b64 ?_)
  | (refine Ex1.b64add (by omega) (by omega) ?_)
  | (refine Ex1.b8 ?_)
  | (refine Ex1.i64 (by omega) (by omega) ?_)
  | (refine Ex1.u8 (by omega) (by omega) ?_)
  | (refine Ex1.i32 (by omega) (by omega) ?_)
  | (refine Ex1.u64 (by omega) (by omega) ?_)
  | (refine Need.mk ⟨rfl, rfl⟩ ?_)
  | (refine Need.mk rfl ?_)
  | (refine Need.mk ⟨rfl, rfl, Nat.le_refl _⟩ ?_)
  | (refine Got.by _ (bytesD_enc _) ?_)
  | (refine Need.mk (by omega) ?_)
  | (refine Got.by _ rfl ?_)
  | (refine Need.mk (by first | (simp; omega) | (simp; done) | fail) ?_)
  | (refine Need.mk ⟨rfl, rfl, by first | (simp; omega) | (simp; done) | fail⟩ ?_)
  | (refine Need.mk ⟨rfl, by first | (simp; omega) | (simp; done) | fail⟩ ?_)
  | (refine Need.mk ⟨by first | (simp; omega) | (simp; done) | fail, by first | (simp; omega) | (simp; done) | fail⟩ ?_)
  | fail)
    all_goals conv => whnf
    · cases s with
      | nil => exact absurd rfl ‹([] : List UInt8) ≠ []›
      | cons c t =>
        have hc : c = 45 := u8_int (y := 45) h
        subst hc
        exact hK trivial _ _ (Weak.of ⟨rfl, by show some (D.str (((45 :: t : List UInt8).drop 1).take ((45 :: t : List UInt8).length - 1))) = _; simp [bodyOf], trivial⟩ rfl)
    · cases s with
      | nil => exact absurd rfl ‹([] : List UInt8) ≠ []›
      | cons c t =>
        have hc : c ≠ 45 := u8_ne (y := 45) h
        exact hK trivial _ _ (Weak.of ⟨rfl, by simp [bodyOf, hc]; rfl, trivial⟩ rfl)
    · subst h
      exact hK trivial _ _ (Weak.of ⟨rfl, rfl, trivial⟩ rfl)

end Go.Proofs.Ytamckclacocifaa
