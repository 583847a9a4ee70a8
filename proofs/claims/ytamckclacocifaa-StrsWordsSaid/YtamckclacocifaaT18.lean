import Derived.Test.YtamckclacocifaaT15
import Derived.Test.YtamckclacocifaaT12
import Derived.Lib.TrimUEq
namespace Go.Proofs.Ytamckclacocifaa
open Go.Ab

def wstep (s : List UInt8) (i : Nat) (p : Int × List (List UInt8)) : Int × List (List UInt8) :=
  if s.getD i 0 = 32 then (if 0 ≤ p.1 then (-1, p.2 ++ [(s.drop p.1.toNat).take (i - p.1.toNat)]) else p)
  else (if p.1 < 0 then ((i : Int), p.2) else p)
def wst (s : List UInt8) : Nat → Int × List (List UInt8)
  | 0 => (-1, [])
  | i + 1 => wstep s i (wst s i)
def wordsL (s : List UInt8) : List (List UInt8) :=
  if 0 ≤ (wst s s.length).1 then (wst s s.length).2 ++ [s.drop (wst s s.length).1.toNat] else (wst s s.length).2
def wordsD (l : List (List UInt8)) : List D := l.map D.str

theorem wst_bound (s : List UInt8) : ∀ i, -1 ≤ (wst s i).1 ∧ (wst s i).1 < i ∧ (wst s i).2.length ≤ i
  | 0 => by simp [wst]
  | i + 1 => by
    obtain ⟨h1, h2, h3⟩ := wst_bound s i
    simp only [wst, wstep]
    split <;> split <;> simp <;> omega

theorem decodeN_width (n b0 b1 b2 b3 j : Nat) (h1 : 0 < j) (h2 : j < (Lib.decodeN n b0 b1 b2 b3).2) : j < n ∧ ((j = 1 ∧ 128 ≤ b1) ∨ (j = 2 ∧ 128 ≤ b2) ∨ (j = 3 ∧ 128 ≤ b3)) := by
  unfold Lib.decodeN at h2
  repeat' split at h2
  all_goals (simp only at h2; omega)

/-- The bytes behind the first within one rune are no spaces. -/
theorem dec_width {s : List UInt8} {pos : Nat} (j : Nat) (h1 : 0 < j) (h2 : j < (Utf8.decode ⟨s.toArray⟩ pos).2) : pos + j < s.length ∧ 128 ≤ (s.getD (pos + j) 0).toNat := by
  rw [Lib.decode_N] at h2
  obtain ⟨a, b⟩ := decodeN_width _ _ _ _ _ j h1 h2
  have e : (⟨s.toArray⟩ : ByteArray).data.toList = s := by simp
  rw [e] at a b
  refine ⟨by omega, ?_⟩
  rcases b with ⟨rfl, b⟩ | ⟨rfl, b⟩ | ⟨rfl, b⟩ <;> exact b

theorem wst_skip {s : List UInt8} {pos : Nat} (hp : 0 ≤ (wst s (pos + 1)).1) : ∀ w, (∀ j, 0 < j → j < w → (s.getD (pos + j) 0).toNat ≠ 32) → 1 ≤ w → wst s (pos + w) = wst s (pos + 1)
  | 0, _, h => by omega
  | 1, _, _ => rfl
  | w + 2, hb, _ => by
    have ih := wst_skip hp (w + 1) (fun j a b => hb j a (by omega)) (by omega)
    show wstep s (pos + (w + 1)) (wst s (pos + (w + 1))) = _
    rw [ih]
    have hne : s.getD (pos + (w + 1)) 0 ≠ 32 := fun e => hb (w + 1) (by omega) (by omega) (by rw [e]; rfl)
    rw [wstep, if_neg hne, if_neg (by omega)]

theorem Bd.wordsD (k : Nat) (l : List (List UInt8)) : ∀ c ∈ wordsD l, Bd k c := by
  intro c hc
  obtain ⟨b, _, rfl⟩ := List.mem_map.1 hc
  simp

set_option maxHeartbeats 4000000 in
theorem ps41 (s : List UInt8) (hs : s.length ≤ 1000000) : PSpec Try.prog 41 [.str s] (.list (wordsD (wordsL s))) := by
  refine PSpec.of_iw fac41 (by simp) ?_
  refine iw_seq1 True [(0, .str s)] [] (fun _ => ?_) fun K hK => hK trivial _ _ (Weak.of ⟨rfl, trivial⟩ rfl)
  refine iw_seq1 True [(3, .ref 0 0), (0, .str s)] [.slice 1 9 []] (fun _ => ?_) fun K hK => hK trivial _ _ (Weak.trans (Weak.of (l := [(3, .nils), (0, .str s)]) ⟨rfl, rfl, trivial⟩ rfl) (Weak.newNil 1 9 3 _ _))
  refine iw_seq1 True [(3, .ref 0 0), (0, .str s), (4, .int .i64 (-1))] [.slice 1 9 []] (fun _ => ?_) fun K hK => hK trivial _ _ (Weak.of ⟨rfl, rfl, rfl, trivial⟩ rfl)
  refine iw_seq1 True [(3, .ref 0 (wst s s.length).2.length), (0, .str s), (4, .int .i64 (wst s s.length).1)] [.slice 1 9 (wordsD (wst s s.length).2)] (fun _ => ?_) fun K hK => ?_
  · obtain ⟨b1, b2, b3⟩ := wst_bound s s.length
    have hwl : (wordsD (wst s s.length).2).length = (wst s s.length).2.length := List.length_map _
    refine iw_seq1 True [(3, .list (wordsD (wordsL s)))] [] (fun _ => ?_) fun K hK => ?_
    · repeat' ((conv => whnf); first
  | (refine sq_keep ?_)
  | (refine Br.yes ?_)
  | (refine Br.no ?_)
  | (refine Br.decT (by assumption) ?_)
  | (refine Br.decF (by assumption) ?_)
  | (refine Br.decF (by omega) ?_)
  | (refine Br.decT (by omega) ?_)
  | (refine Br.dec (fun h => ?_) (fun h => ?_))
  | (refine Br.eqT (by assumption) ?_)
  | (refine Br.eqF (by assumption) ?_)
  | (refine Br.neT (by assumption) ?_)
  | (refine Br.neF (by assumption) ?_)
  | (refine Br.eqT (by omega) ?_)
  | (refine Br.eqF (by omega) ?_)
  | (refine Br.neT (by omega) ?_)
  | (refine Br.neF (by omega) ?_)
  | (refine Br.eqI (fun h => ?_) (fun h => ?_))
  | (refine Br.neI (fun h => ?_) (fun h => ?_))
  | (refine Br.sT (by assumption) ?_)
  | (refine Br.sF (by assumption) ?_)
  | (refine Br.snT (by assumption) ?_)
  | (refine Br.snF (by assumption) ?_)
  | (refine Br.eqS (fun h => ?_) (fun h => ?_))
  | (refine Br.neS (fun h => ?_) (fun h => ?_))
  | (refine Br.not ?_)
  | (refine Br.anyT (by assumption) ?_)
  | (refine Br.anyF (by assumption) ?_)
  | (refine Br.any (fun h => ?_) (fun h => ?_))
  | (refine Ex1.b64 ?_)
  | (refine Ex1.b64add (by omega) (by omega) ?_)
  | (refine Ex1.b8 ?_)
  | (refine Ex1.i64 (by omega) (by omega) ?_)
  | (refine Ex1.u8 (by omega) (by omega) ?_)
  | (refine Ex1.i32 (by omega) (by omega) ?_)
  | (refine Ex1.u64 (by omega) (by omega) ?_)
  | (refine Need.mk ⟨rfl, rfl⟩ ?_)
  | (refine Need.mk rfl ?_)
  | (refine Need.mk ⟨rfl, rfl, Nat.le_refl _⟩ ?_)
  | (refine Got.by _ (bytesD_enc _) ?_)
  | (refine Need.mk (by omega) ?_)
  | (refine Got.by _ rfl ?_)
  | (refine Need.mk (by first | (simp; omega) | (simp; done) | fail) ?_)
  | (refine Need.mk ⟨rfl, rfl, by first | (simp; omega) | (simp; done) | fail⟩ ?_)
  | (refine Need.mk ⟨rfl, by first | (simp; omega) | (simp; done) | fail⟩ ?_)
  | (refine Need.mk ⟨by first | (simp; omega) | (simp; done) | fail, by first | (simp; omega) | (simp; done) | fail⟩ ?_)
  | fail)
      all_goals rfl
    · repeat' ((conv => whnf); first
  | (refine Need.mk ⟨rfl, rfl, hwl⟩ ?_)
  | (refine Need.mk ⟨by show ((wst s s.length).2.length + 1) * 16 ≤ 140737488355328; omega, by show (wst s s.length).2.length + 1 ≤ 4611686018427387904; omega⟩ ?_)
  | (refine sq_keep ?_)
  | (refine Br.yes ?_)
  | (refine Br.no ?_)
  | (refine Br.decT (by assumption) ?_)
  | (refine Br.decF (by assumption) ?_)
  | (refine Br.decF (by omega) ?_)
  | (refine Br.decT (by omega) ?_)
  | (refine Br.dec (fun h => ?_) (fun h => ?_))
  | (refine Br.eqT (by assumption) ?_)
  | (refine Br.eqF (by assumption) ?_)
  | (refine Br.neT (by assumption) ?_)
  | (refine Br.neF (by assumption) ?_)
  | (refine Br.eqT (by omega) ?_)
  | (refine Br.eqF (by omega) ?_)
  | (refine Br.neT (by omega) ?_)
  | (refine Br.neF (by omega) ?_)
  | (refine Br.eqI (fun h => ?_) (fun h => ?_))
  | (refine Br.neI (fun h => ?_) (fun h => ?_))
  | (refine Br.sT (by assumption) ?_)
  | (refine Br.sF (by assumption) ?_)
  | (refine Br.snT (by assumption) ?_)
  | (refine Br.snF (by assumption) ?_)
  | (refine Br.eqS (fun h => ?_) (fun h => ?_))
  | (refine Br.neS (fun h => ?_) (fun h => ?_))
  | (refine Br.not ?_)
  | (refine Br.anyT (by assumption) ?_)
  | (refine Br.anyF (by assumption) ?_)
  | (refine Br.any (fun h => ?_) (fun h => ?_))
  | (refine Ex1.b64 ?_)
  | (refine Ex1.b64add (by omega) (by omega) ?_)
  | (refine Ex1.b8 ?_)
  | (refine Ex1.i64 (by omega) (by omega) ?_)
  | (refine Ex1.u8 (by omega) (by omega) ?_)
  | (refine Ex1.i32 (by omega) (by omega) ?_)
  | (refine Ex1.u64 (by omega) (by omega) ?_)
  | (refine Need.mk ⟨rfl, rfl⟩ ?_)
  | (refine Need.mk rfl ?_)
  | (refine Need.mk ⟨rfl, rfl, Nat.le_refl _⟩ ?_)
  | (refine Got.by _ (bytesD_enc _) ?_)
  | (refine Need.mk (by omega) ?_)
  | (refine Got.by _ rfl ?_)
  | (refine Need.mk (by first | (simp; omega) | (simp; done) | fail) ?_)
  | (refine Need.mk ⟨rfl, rfl, by first | (simp; omega) | (simp; done) | fail⟩ ?_)
  | (refine Need.mk ⟨rfl, by first | (simp; omega) | (simp; done) | fail⟩ ?_)
  | (refine Need.mk ⟨by first | (simp; omega) | (simp; done) | fail, by first | (simp; omega) | (simp; done) | fail⟩ ?_)
  | fail)
      all_goals conv => whnf
      · have e : wordsL s = (wst s s.length).2 ++ [s.drop (wst s s.length).1.toNat] := by rw [wordsL, if_pos h]
        have e2 : (s.drop (wst s s.length).1.toNat).take (s.length - (wst s s.length).1.toNat) = s.drop (wst s s.length).1.toNat := List.take_of_length_le (by rw [List.length_drop]; omega)
        have e3 : wordsD (wst s s.length).2 ++ [D.str ((s.drop (wst s s.length).1.toNat).take (s.length - (wst s s.length).1.toNat))] = wordsD (wordsL s) := by rw [e2, e]; simp [wordsD]
        have hlen : (wordsD (wordsL s)).length = (wst s s.length).2.length + 1 := by rw [← e3]; simp [hwl]
        refine hK trivial _ _ (Weak.trans (Weak.of (l := [(3, .ref 0 ((wst s s.length).2.length + 1))]) (h' := [.slice 1 9 (wordsD (wordsL s)), .slice 1 9 [D.str ((s.drop (wst s s.length).1.toNat).take (s.length - (wst s s.length).1.toNat))]]) ⟨rfl, trivial⟩ ?_) (Weak.trans (Weak.sealed (esz := 1) (ty := 9) rfl hlen) ?_))
        · show [Blk.slice 1 9 (wordsD (wst s s.length).2 ++ [D.str ((s.drop (wst s s.length).1.toNat).take (s.length - (wst s s.length).1.toNat))]), _] = _
          rw [e3]
        · exact Weak.cut' (g := [.dead, .slice 1 9 [D.str ((s.drop (wst s s.length).1.toNat).take (s.length - (wst s s.length).1.toNat))]]) ⟨rfl, trivial⟩ rfl (by simp) (by simp; exact Bd.wordsD _ _) (by simp)
      · have e : wordsL s = (wst s s.length).2 := by rw [wordsL, if_neg h]
        rw [e] at hK
        refine hK trivial _ _ (Weak.trans (Weak.of (l := [(3, .ref 0 (wst s s.length).2.length)]) ⟨rfl, trivial⟩ rfl) (Weak.trans (Weak.sealed (esz := 1) (ty := 9) rfl hwl) ?_))
        exact Weak.cut' (g := [.dead]) ⟨rfl, trivial⟩ rfl (by simp) (by simp; exact Bd.wordsD _ _) (by simp)
  · repeat' ((conv => whnf); first
  | (refine sq_keep ?_)
  | (refine Br.yes ?_)
  | (refine Br.no ?_)
  | (refine Br.decT (by assumption) ?_)
  | (refine Br.decF (by assumption) ?_)
  | (refine Br.decF (by omega) ?_)
  | (refine Br.decT (by omega) ?_)
  | (refine Br.dec (fun h => ?_) (fun h => ?_))
  | (refine Br.eqT (by assumption) ?_)
  | (refine Br.eqF (by assumption) ?_)
  | (refine Br.neT (by assumption) ?_)
  | (refine Br.neF (by assumption) ?_)
  | (refine Br.eqT (by omega) ?_)
  | (refine Br.eqF (by omega) ?_)
  | (refine Br.neT (by omega) ?_)
  | (refine Br.neF (by omega) ?_)
  | (refine Br.eqI (fun h => ?_) (fun h => ?_))
  | (refine Br.neI (fun h => ?_) (fun h => ?_))
  | (refine Br.sT (by assumption) ?_)
  | (refine Br.sF (by assumption) ?_)
  | (refine Br.snT (by assumption) ?_)
  | (refine Br.snF (by assumption) ?_)
  | (refine Br.eqS (fun h => ?_) (fun h => ?_))
  | (refine Br.neS (fun h => ?_) (fun h => ?_))
  | (refine Br.not ?_)
  | (refine Br.anyT (by assumption) ?_)
  | (refine Br.anyF (by assumption) ?_)
  | (refine Br.any (fun h => ?_) (fun h => ?_))
  | (refine Ex1.b64 ?_)
  | (refine Ex1.b64add (by omega) (by omega) ?_)
  | (refine Ex1.b8 ?_)
  | (refine Ex1.i64 (by omega) (by omega) ?_)
  | (refine Ex1.u8 (by omega) (by omega) ?_)
  | (refine Ex1.i32 (by omega) (by omega) ?_)
  | (refine Ex1.u64 (by omega) (by omega) ?_)
  | (refine Need.mk ⟨rfl, rfl⟩ ?_)
  | (refine Need.mk rfl ?_)
  | (refine Need.mk ⟨rfl, rfl, Nat.le_refl _⟩ ?_)
  | (refine Got.by _ (bytesD_enc _) ?_)
  | (refine Need.mk (by omega) ?_)
  | (refine Got.by _ rfl ?_)
  | (refine Need.mk (by first | (simp; omega) | (simp; done) | fail) ?_)
  | (refine Need.mk ⟨rfl, rfl, by first | (simp; omega) | (simp; done) | fail⟩ ?_)
  | (refine Need.mk ⟨rfl, by first | (simp; omega) | (simp; done) | fail⟩ ?_)
  | (refine Need.mk ⟨by first | (simp; omega) | (simp; done) | fail, by first | (simp; omega) | (simp; done) | fail⟩ ?_)
  | fail)
    refine iw_loop (σ := Nat) (fun i => i ≤ s.length) (fun i => s.length - i) (fun i => [(0, .str s), (3, .ref 0 (wst s i).2.length), (4, .int .i64 (wst s i).1), (8, .hnd 1)]) (fun i => [.slice 1 9 (wordsD (wst s i).2), .iter s i]) 0
      (by omega) (Weak.of ⟨rfl, rfl, rfl, rfl, trivial⟩ rfl) fun i hi K2 hK2 => ?_
    obtain ⟨b1, b2, b3⟩ := wst_bound s i
    have hwl : (wordsD (wst s i).2).length = (wst s i).2.length := List.length_map _
    by_cases hlt : i < s.length
    · have hdec := dec_both (s := s) (pos := i) hlt
      have hwid := fun j => dec_width (s := s) (pos := i) j
      conv => whnf
      generalize Utf8.decode ⟨s.toArray⟩ i = r at hdec hwid ⊢
      obtain ⟨r, w⟩ := r
      simp only at hdec hwid
      repeat' ((conv => whnf); first
        | (refine Br.decT hlt ?_)
        | (refine Need.mk ⟨rfl, rfl, hwl⟩ ?_)
        | (refine Need.mk ⟨by show ((wst s i).2.length + 1) * 16 ≤ 140737488355328; omega, by show (wst s i).2.length + 1 ≤ 4611686018427387904; omega⟩ ?_)
        | (refine sq_keep ?_)
        | (refine Br.yes ?_)
        | (refine Br.no ?_)
        | (refine Br.decT (by assumption) ?_)
        | (refine Br.decF (by assumption) ?_)
        | (refine Br.decF (by omega) ?_)
        | (refine Br.decT (by omega) ?_)
        | (refine Br.dec (fun h => ?_) (fun h => ?_))
        | (refine Br.eqT (by assumption) ?_)
        | (refine Br.eqF (by assumption) ?_)
        | (refine Br.neT (by assumption) ?_)
        | (refine Br.neF (by assumption) ?_)
        | (refine Br.eqT (by omega) ?_)
        | (refine Br.eqF (by omega) ?_)
        | (refine Br.neT (by omega) ?_)
        | (refine Br.neF (by omega) ?_)
        | (refine Br.eqI (fun h => ?_) (fun h => ?_))
        | (refine Br.neI (fun h => ?_) (fun h => ?_))
        | (refine Br.sT (by assumption) ?_)
        | (refine Br.sF (by assumption) ?_)
        | (refine Br.snT (by assumption) ?_)
        | (refine Br.snF (by assumption) ?_)
        | (refine Br.eqS (fun h => ?_) (fun h => ?_))
        | (refine Br.neS (fun h => ?_) (fun h => ?_))
        | (refine Br.not ?_)
        | (refine Br.anyT (by assumption) ?_)
        | (refine Br.anyF (by assumption) ?_)
        | (refine Br.any (fun h => ?_) (fun h => ?_))
        | (refine Ex1.b64 ?_)
        | (refine Ex1.b64add (by omega) (by omega) ?_)
        | (refine Ex1.b8 ?_)
        | (refine Ex1.i64 (by omega) (by omega) ?_)
        | (refine Ex1.u8 (by omega) (by omega) ?_)
        | (refine Ex1.i32 (by omega) (by omega) ?_)
        | (refine Ex1.u64 (by omega) (by omega) ?_)
        | (refine Need.mk ⟨rfl, rfl⟩ ?_)
        | (refine Need.mk rfl ?_)
        | (refine Need.mk ⟨rfl, rfl, Nat.le_refl _⟩ ?_)
        | (refine Got.by _ (bytesD_enc _) ?_)
        | (refine Need.mk (by omega) ?_)
        | (refine Got.by _ rfl ?_)
        | (refine Need.mk (by first | (simp; omega) | (simp; done) | fail) ?_)
        | (refine Need.mk ⟨rfl, rfl, by first | (simp; omega) | (simp; done) | fail⟩ ?_)
        | (refine Need.mk ⟨rfl, by first | (simp; omega) | (simp; done) | fail⟩ ?_)
        | (refine Need.mk ⟨by first | (simp; omega) | (simp; done) | fail, by first | (simp; omega) | (simp; done) | fail⟩ ?_)
        | fail)
      all_goals conv => whnf
      · have h32 : ((r : Nat) : Int) = 32 := ‹_›
        have hb : s.getD i 0 = 32 := UInt8.toNat_inj.1 (by show (s.getD i 0).toNat = 32; omega)
        have hw : w = 1 := by omega
        subst hw
        have e : wst s (i + 1) = (-1, (wst s i).2 ++ [(s.drop (wst s i).1.toNat).take (i - (wst s i).1.toNat)]) := by
          show wstep s i (wst s i) = _
          rw [wstep, if_pos hb, if_pos (show 0 ≤ (wst s i).1 by omega)]
        refine hK2 (i + 1) (by omega) (by omega) _ _ (Weak.cut' (g := [.slice 1 9 [D.str ((s.drop (wst s i).1.toNat).take (i - (wst s i).1.toNat))]]) ⟨rfl, ?_, ?_, rfl, trivial⟩ ?_ (by simp) (by simp) ?_)
        · rw [e]; show some (D.ref 0 ((wst s i).2.length + 1)) = some (D.ref 0 ((wst s i).2 ++ [_]).length); simp
        · rw [e]; rfl
        · rw [e]
          show [Blk.slice 1 9 (wordsD (wst s i).2 ++ [D.str ((s.drop (wst s i).1.toNat).take (i - (wst s i).1.toNat))]), .iter s (i + 1), .slice 1 9 [D.str ((s.drop (wst s i).1.toNat).take (i - (wst s i).1.toNat))]] = _
          simp [wordsD]
        · simp; exact Bd.wordsD _ _
      · have h32 : ((r : Nat) : Int) = 32 := ‹_›
        have hb : s.getD i 0 = 32 := UInt8.toNat_inj.1 (by show (s.getD i 0).toNat = 32; omega)
        have hw : w = 1 := by omega
        subst hw
        have e : wst s (i + 1) = wst s i := by
          show wstep s i (wst s i) = _
          rw [wstep, if_pos hb, if_neg (by omega)]
        exact hK2 (i + 1) (by omega) (by omega) _ _ (Weak.of ⟨rfl, by rw [e]; rfl, by rw [e]; rfl, rfl, trivial⟩ (by rw [e]; rfl))
      all_goals
        have hn32 : ((r : Nat) : Int) ≠ 32 := ‹_›
        have hb : s.getD i 0 ≠ 32 := fun e => by
          have : (s.getD i 0).toNat = 32 := by rw [e]; rfl
          omega
        have hle : i + w ≤ s.length := by
          by_cases h1 : w ≤ 1
          · omega
          · have := (hwid (w - 1) (by omega) (by omega)).1
            omega
      · have e : wst s (i + 1) = ((i : Int), (wst s i).2) := by
          show wstep s i (wst s i) = _
          rw [wstep, if_neg hb, if_pos (show (wst s i).1 < 0 by omega)]
        have e2 : wst s (i + w) = ((i : Int), (wst s i).2) := by
          rw [wst_skip (by rw [e]; show (0 : Int) ≤ i; omega) w (fun j a b => by have := (hwid j a b).2; omega) (by omega), e]
        exact hK2 (i + w) (by omega) hle _ _ (Weak.of ⟨rfl, by rw [e2]; rfl, by rw [e2]; rfl, rfl, trivial⟩ (by rw [e2]; rfl))
      · have e : wst s (i + 1) = wst s i := by
          show wstep s i (wst s i) = _
          rw [wstep, if_neg hb, if_neg (by omega)]
        have e2 : wst s (i + w) = wst s i := by
          rw [wst_skip (by rw [e]; omega) w (fun j a b => by have := (hwid j a b).2; omega) (by omega), e]
        exact hK2 (i + w) (by omega) hle _ _ (Weak.of ⟨rfl, by rw [e2]; rfl, by rw [e2]; rfl, rfl, trivial⟩ (by rw [e2]; rfl))
    · have hil : i = s.length := by omega
      subst hil
      repeat' ((conv => whnf); first
        | (refine Br.decF hlt ?_)
        | (refine sq_keep ?_)
        | (refine Br.yes ?_)
        | (refine Br.no ?_)
        | (refine Br.decT (by assumption) ?_)
        | (refine Br.decF (by assumption) ?_)
        | (refine Br.decF (by omega) ?_)
        | (refine Br.decT (by omega) ?_)
        | (refine Br.dec (fun h => ?_) (fun h => ?_))
        | (refine Br.eqT (by assumption) ?_)
        | (refine Br.eqF (by assumption) ?_)
        | (refine Br.neT (by assumption) ?_)
        | (refine Br.neF (by assumption) ?_)
        | (refine Br.eqT (by omega) ?_)
        | (refine Br.eqF (by omega) ?_)
        | (refine Br.neT (by omega) ?_)
        | (refine Br.neF (by omega) ?_)
        | (refine Br.eqI (fun h => ?_) (fun h => ?_))
        | (refine Br.neI (fun h => ?_) (fun h => ?_))
        | (refine Br.sT (by assumption) ?_)
        | (refine Br.sF (by assumption) ?_)
        | (refine Br.snT (by assumption) ?_)
        | (refine Br.snF (by assumption) ?_)
        | (refine Br.eqS (fun h => ?_) (fun h => ?_))
        | (refine Br.neS (fun h => ?_) (fun h => ?_))
        | (refine Br.not ?_)
        | (refine Br.anyT (by assumption) ?_)
        | (refine Br.anyF (by assumption) ?_)
        | (refine Br.any (fun h => ?_) (fun h => ?_))
        | (refine Ex1.b64 ?_)
        | (refine Ex1.b64add (by omega) (by omega) ?_)
        | (refine Ex1.b8 ?_)
        | (refine Ex1.i64 (by omega) (by omega) ?_)
        | (refine Ex1.u8 (by omega) (by omega) ?_)
        | (refine Ex1.i32 (by omega) (by omega) ?_)
        | (refine Ex1.u64 (by omega) (by omega) ?_)
        | (refine Need.mk ⟨rfl, rfl⟩ ?_)
        | (refine Need.mk rfl ?_)
        | (refine Need.mk ⟨rfl, rfl, Nat.le_refl _⟩ ?_)
        | (refine Got.by _ (bytesD_enc _) ?_)
        | (refine Need.mk (by omega) ?_)
        | (refine Got.by _ rfl ?_)
        | (refine Need.mk (by first | (simp; omega) | (simp; done) | fail) ?_)
        | (refine Need.mk ⟨rfl, rfl, by first | (simp; omega) | (simp; done) | fail⟩ ?_)
        | (refine Need.mk ⟨rfl, by first | (simp; omega) | (simp; done) | fail⟩ ?_)
        | (refine Need.mk ⟨by first | (simp; omega) | (simp; done) | fail, by first | (simp; omega) | (simp; done) | fail⟩ ?_)
        | fail)
      all_goals conv => whnf
      exact hK trivial _ _ (Weak.cut' (g := [.iter s s.length]) ⟨rfl, rfl, rfl, trivial⟩ rfl (by simp) (by simp) (by simp; exact Bd.wordsD _ _))

end Go.Proofs.Ytamckclacocifaa
