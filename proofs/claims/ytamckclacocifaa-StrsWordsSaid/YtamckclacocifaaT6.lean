import Derived.Test.YtamckclacocifaaT5
namespace Go.Proofs.Ytamckclacocifaa
open Go.Ab

def digs (m : Nat) : List UInt8 := if _h : m = 0 then [] else digs (m / 10) ++ [UInt8.ofNat (48 + m % 10)]
termination_by m
decreasing_by omega

theorem digs_zero : digs 0 = [] := by rw [digs]; rfl
theorem digs_pos {m : Nat} (h : m ≠ 0) : digs m = digs (m / 10) ++ [UInt8.ofNat (48 + m % 10)] := by rw [digs]; simp [h]

def body (n : Int) : List UInt8 := if n = 0 then [48] else digs n.natAbs
def showS (n : Int) : List UInt8 := if n < 0 then 45 :: body n else body n

theorem body_step (n : Int) : digs (n.natAbs / 10) ++ [UInt8.ofNat (48 + n.natAbs % 10)] = body n := by
  by_cases h : n = 0
  · subst h; simp [body, digs_zero]
  · rw [body, if_neg h, digs_pos (m := n.natAbs) (by omega)]

theorem encB_digit (m : Nat) : encB (UInt8.ofNat (48 + m % 10)) = .int .u8 (48 + ((m % 10 : Nat) : Int)) := by
  rw [encB, UInt8.toNat_ofNat']
  congr 1
  omega

def boxD (p : Nat) (ds : List UInt8) : List D := List.replicate p (.int .u8 0) ++ ds.map encB

theorem boxD_length {p : Nat} {ds : List UInt8} (h : ds.length + p = 20) : (boxD p ds).length = 20 := by simp [boxD]; omega
theorem boxD_put (p : Nat) (b : UInt8) (ds : List UInt8) : putAt (boxD (p + 1) ds) p [encB b] = boxD p (b :: ds) := by
  simp only [boxD, putAt, List.replicate_succ']
  rw [List.append_assoc, List.take_append_of_le_length (by simp), List.drop_append]
  simp
theorem boxD_drop (p : Nat) (ds : List UInt8) (h : ds.length + p = 20) : (((boxD p ds).take 20).drop p).take (20 - p) = ds.map encB := by
  have h1 : (boxD p ds).take 20 = boxD p ds := List.take_of_length_le (by rw [boxD_length h]; omega)
  rw [h1, boxD, List.drop_append_of_le_length (by simp)]
  simp only [List.drop_replicate, Nat.sub_self, List.replicate_zero, List.nil_append]
  exact List.take_of_length_le (by simp; omega)

theorem pow_div {m q : Nat} (h : m < 10 ^ (q + 1)) : m / 10 < 10 ^ q := by
  rw [Nat.pow_succ] at h; omega

theorem ps30 (n : Int) (h1 : -9223372036854775808 ≤ n) (h2 : n ≤ 9223372036854775807) : PSpec Try.prog 30 [.int .i64 n] (.str (showS n)) := by
  refine PSpec.of_iw fac30 (by simp) ?_
  refine iw_seq1 True [(0, .int .i64 n)] [] (fun _ => ?_) fun K hK => hK trivial _ _ (Weak.of ⟨rfl, trivial⟩ rfl)
  refine iw_seq1 True [(0, .int .i64 n), (3, .int .u64 (if n < 0 then n + 18446744073709551616 else n))] [] (fun _ => ?_) fun K hK => ?_
  · refine iw_seq1 True [(0, .int .i64 n), (3, .int .u64 n.natAbs)] [] (fun _ => ?_) fun K hK => ?_
    · refine iw_seq1 True [(0, .int .i64 n), (3, .int .u64 n.natAbs), (4, .ptr 0 0)] [.box (boxD 20 [])] (fun _ => ?_) fun K hK => hK trivial _ _ (Weak.of ⟨rfl, rfl, rfl, trivial⟩ rfl)
      refine iw_seq1 True [(0, .int .i64 n), (3, .int .u64 n.natAbs), (4, .ptr 0 0), (5, .int .i64 (20 : Nat))] [.box (boxD 20 [])] (fun _ => ?_) fun K hK => hK trivial _ _ (Weak.of ⟨rfl, rfl, rfl, rfl, trivial⟩ rfl)
      refine iw_seq (σ := Nat) (fun p => 1 ≤ p ∧ (body n).length + p = 20) (fun p => [(0, .int .i64 n), (4, .ptr 0 0), (5, .int .i64 p)]) (fun p => [.box (boxD p (body n))]) (fun p hp => ?_) fun K hK => ?_
      · refine iw_seq (σ := Nat) (fun p => (showS n).length + p = 20) (fun p => [(4, .ptr 0 0), (5, .int .i64 p)]) (fun p => [.box (boxD p (showS n))]) (fun p hp => ?_) fun K hK => ?_
        · repeat' ((conv => whnf); first
  | (refine Need.mk (by rw [boxD_length hp]; decide) ?_)
  | (refine Need.mk ⟨by omega, by omega⟩ ?_)
  | (refine Got.by (showS n) (by show bytesD (((List.take 20 (boxD p _)).drop p).take (20 - p)) = _; rw [boxD_drop p _ hp, bytesD_enc]) ?_)
  | (refine sq_keep ?_)
  | (refine Br.yes ?_)
  | (refine Br.no ?_)
  | (refine Br.decT (by assumption) ?_)
  | (refine Br.decF (by assumption) ?_)
  | (refine Br.decF (by omega) ?_)
  | (refine Br.decT (by omega) ?_)
  | (refine Br.dec (fun h => ?_) (fun h => ?_))
  | (refine Br.eqT (by assumption) ?_)
  | (refine Br.eqF (by assumption) ?_)
  | (refine Br.neT (by assumption) ?_)
  | (refine Br.neF (by assumption) ?_)
  | (refine Br.eqT (by omega) ?_)
  | (refine Br.eqF (by omega) ?_)
  | (refine Br.neT (by omega) ?_)
  | (refine Br.neF (by omega) ?_)
  | (refine Br.eqI (fun h => ?_) (fun h => ?_))
  | (refine Br.neI (fun h => ?_) (fun h => ?_))
  | (refine Br.sT (by assumption) ?_)
  | (refine Br.sF (by assumption) ?_)
  | (refine Br.snT (by assumption) ?_)
  | (refine Br.snF (by assumption) ?_)
  | (refine Br.eqS (fun h => ?_) (fun h => ?_))
  | (refine Br.neS (fun h => ?_) (fun h => ?_))
  | (refine Br.not ?_)
  | (refine Br.anyT (by assumption) ?_)
  | (refine Br.anyF (by assumption) ?_)
  | (refine Br.any (fun h => ?_) (fun h => ?_))
  | (refine Ex1.b64 ?_)
  | (refine Ex1.b64add (by omega) (by omega) ?_)
  | (refine Ex1.b8 ?_)
  | (refine Ex1.i64 (by omega) (by omega) ?_)
  | (refine Ex1.u8 (by omega) (by omega) ?_)
  | (refine Ex1.i32 (by omega) (by omega) ?_)
  | (refine Ex1.u64 (by omega) (by omega) ?_)
  | (refine Need.mk ⟨rfl, rfl⟩ ?_)
  | (refine Need.mk rfl ?_)
  | (refine Need.mk ⟨rfl, rfl, Nat.le_refl _⟩ ?_)
  | (refine Got.by _ (bytesD_enc _) ?_)
  | (refine Need.mk (by omega) ?_)
  | (refine Got.by _ rfl ?_)
  | (refine Need.mk (by first | (simp; omega) | (simp; done) | fail) ?_)
  | (refine Need.mk ⟨rfl, rfl, by first | (simp; omega) | (simp; done) | fail⟩ ?_)
  | (refine Need.mk ⟨rfl, by first | (simp; omega) | (simp; done) | fail⟩ ?_)
  | (refine Need.mk ⟨by first | (simp; omega) | (simp; done) | fail, by first | (simp; omega) | (simp; done) | fail⟩ ?_)
  | fail)
          all_goals rfl
        · obtain ⟨q, rfl⟩ : ∃ q, p = q + 1 := ⟨p - 1, by omega⟩
          repeat' ((conv => whnf); first
            | (refine Need.mk ⟨by omega, by omega⟩ ?_)
            | (refine Need.mk ⟨rfl, rfl, by rw [boxD_length hp.2]; show _ + 1 ≤ 20; omega⟩ ?_)
            | (refine sq_keep ?_)
            | (refine Br.yes ?_)
            | (refine Br.no ?_)
            | (refine Br.decT (by assumption) ?_)
            | (refine Br.decF (by assumption) ?_)
            | (refine Br.decF (by omega) ?_)
            | (refine Br.decT (by omega) ?_)
            | (refine Br.dec (fun h => ?_) (fun h => ?_))
            | (refine Br.eqT (by assumption) ?_)
            | (refine Br.eqF (by assumption) ?_)
            | (refine Br.neT (by assumption) ?_)
            | (refine Br.neF (by assumption) ?_)
            | (refine Br.eqT (by omega) ?_)
            | (refine Br.eqF (by omega) ?_)
            | (refine Br.neT (by omega) ?_)
            | (refine Br.neF (by omega) ?_)
            | (refine Br.eqI (fun h => ?_) (fun h => ?_))
            | (refine Br.neI (fun h => ?_) (fun h => ?_))
            | (refine Br.sT (by assumption) ?_)
            | (refine Br.sF (by assumption) ?_)
            | (refine Br.snT (by assumption) ?_)
            | (refine Br.snF (by assumption) ?_)
            | (refine Br.eqS (fun h => ?_) (fun h => ?_))
            | (refine Br.neS (fun h => ?_) (fun h => ?_))
            | (refine Br.not ?_)
            | (refine Br.anyT (by assumption) ?_)
            | (refine Br.anyF (by assumption) ?_)
            | (refine Br.any (fun h => ?_) (fun h => ?_))
            | (refine Ex1.b64 ?_)
            | (refine Ex1.b64add (by omega) (by omega) ?_)
            | (refine Ex1.b8 ?_)
            | (refine Ex1.i64 (by omega) (by omega) ?_)
            | (refine Ex1.u8 (by omega) (by omega) ?_)
            | (refine Ex1.i32 (by omega) (by omega) ?_)
            | (refine Ex1.u64 (by omega) (by omega) ?_)
            | (refine Need.mk ⟨rfl, rfl⟩ ?_)
            | (refine Need.mk rfl ?_)
            | (refine Need.mk ⟨rfl, rfl, Nat.le_refl _⟩ ?_)
            | (refine Got.by _ (bytesD_enc _) ?_)
            | (refine Need.mk (by omega) ?_)
            | (refine Got.by _ rfl ?_)
            | (refine Need.mk (by first | (simp; omega) | (simp; done) | fail) ?_)
            | (refine Need.mk ⟨rfl, rfl, by first | (simp; omega) | (simp; done) | fail⟩ ?_)
            | (refine Need.mk ⟨rfl, by first | (simp; omega) | (simp; done) | fail⟩ ?_)
            | (refine Need.mk ⟨by first | (simp; omega) | (simp; done) | fail, by first | (simp; omega) | (simp; done) | fail⟩ ?_)
            | fail)
          all_goals conv => whnf
          · refine hK q (by rw [showS, if_pos h]; simp; omega) _ _ (Weak.of ⟨rfl, by show some (D.int _ _) = some (D.int _ _); congr 2; omega, trivial⟩ ?_)
            show [Blk.box (putAt (boxD (q + 1) (body n)) (0 + (((q + 1 : Nat) : Int) - 1).toNat * 1) [encB 45])] = _
            rw [show 0 + (((q + 1 : Nat) : Int) - 1).toNat * 1 = q by omega, boxD_put, showS, if_pos h]
          · exact hK (q + 1) (by rw [showS, if_neg h]; omega) _ _ (Weak.of ⟨rfl, rfl, trivial⟩ (by rw [showS, if_neg h]))
      · conv => whnf
        refine iw_loop (σ := Nat × Nat × List UInt8) (fun (p, m, ds) => 1 ≤ p ∧ ds.length + p = 20 ∧ m < 10 ^ (p - 1) ∧ ((p = 20 ∧ m = n.natAbs) ∨ (p < 20 ∧ digs m ++ ds = body n))) (fun (p, _, _) => p)
          (fun (p, m, _) => [(0, .int .i64 n), (3, .int .u64 m), (4, .ptr 0 0), (5, .int .i64 p)]) (fun (p, _, ds) => [.box (boxD p ds)]) (20, n.natAbs, [])
          ⟨by omega, rfl, by show n.natAbs < 10 ^ 19; omega, .inl ⟨rfl, rfl⟩⟩ (Weak.of ⟨rfl, rfl, rfl, rfl, trivial⟩ rfl) ?_
        rintro ⟨p, m, ds⟩ ⟨i1, i2, i3, i4⟩ K2 hK2
        have hm : m < 10000000000000000000 := by
          have : 10 ^ (p - 1) ≤ 10 ^ 19 := Nat.pow_le_pow_right (by omega) (by omega)
          omega
        have key : 2 ≤ p → K2 = K2 → ∀ t1 h1, Weak 0 t1 h1 (tm [(0, .int .i64 n), (3, .int .u64 ((m / 10 : Nat) : Int)), (4, .ptr 0 0), (5, .int .i64 ((p - 1 : Nat) : Int))]) [.box (putAt (boxD p ds) (p - 1) [encB (UInt8.ofNat (48 + m % 10))])] → (p = 20 ∨ 0 < m) → K2 t1 h1 := by
          intro hp _ t1 h1 hw hc
          obtain ⟨q, rfl⟩ : ∃ q, p = q + 2 := ⟨p - 2, by omega⟩
          refine hK2 (q + 1, m / 10, UInt8.ofNat (48 + m % 10) :: ds) (by show q + 1 < q + 2; omega) ⟨by omega, by simp; omega, pow_div i3, .inr ⟨by omega, ?_⟩⟩ _ _ ?_
          · rcases i4 with ⟨e1, e2⟩ | ⟨e1, e2⟩
            · have : ds = [] := List.length_eq_zero_iff.1 (by omega)
              rw [this, e2, body_step]
            · rw [← e2, digs_pos (m := m) (by omega)]; simp
          · rw [show q + 2 - 1 = q + 1 by omega, boxD_put] at hw
            exact hw
        have hp2 : (p = 20 ∨ 0 < m) → 2 ≤ p := by
          rintro (e | e)
          · omega
          · rcases Nat.lt_or_ge p 2 with q | q
            · have : p - 1 = 0 := by omega
              rw [this] at i3; simp at i3; omega
            · exact q
        repeat' ((conv => whnf); first
          | (refine Need.mk (by decide) (Ex1.by ((m % 10 : Nat) : Int) (Int.ofNat_tmod m 10).symm ?_))
          | (refine Need.mk (by decide) (Ex1.by ((m / 10 : Nat) : Int) (by rw [IntKind.wrap_u64, show (10 : Int) = ((10 : Nat) : Int) from rfl, ← Int.ofNat_tdiv]; omega) ?_))
          | (refine Need.mk ⟨by have := hp2 (by omega); omega, by omega⟩ ?_)
          | (refine Need.mk ⟨rfl, rfl, by rw [boxD_length i2]; show _ + 1 ≤ 20; omega⟩ ?_)
          | (refine sq_keep ?_)
          | (refine Br.yes ?_)
          | (refine Br.no ?_)
          | (refine Br.decT (by assumption) ?_)
          | (refine Br.decF (by assumption) ?_)
          | (refine Br.decF (by omega) ?_)
          | (refine Br.decT (by omega) ?_)
          | (refine Br.dec (fun h => ?_) (fun h => ?_))
          | (refine Br.eqT (by assumption) ?_)
          | (refine Br.eqF (by assumption) ?_)
          | (refine Br.neT (by assumption) ?_)
          | (refine Br.neF (by assumption) ?_)
          | (refine Br.eqT (by omega) ?_)
          | (refine Br.eqF (by omega) ?_)
          | (refine Br.neT (by omega) ?_)
          | (refine Br.neF (by omega) ?_)
          | (refine Br.eqI (fun h => ?_) (fun h => ?_))
          | (refine Br.neI (fun h => ?_) (fun h => ?_))
          | (refine Br.sT (by assumption) ?_)
          | (refine Br.sF (by assumption) ?_)
          | (refine Br.snT (by assumption) ?_)
          | (refine Br.snF (by assumption) ?_)
          | (refine Br.eqS (fun h => ?_) (fun h => ?_))
          | (refine Br.neS (fun h => ?_) (fun h => ?_))
          | (refine Br.not ?_)
          | (refine Br.anyT (by assumption) ?_)
          | (refine Br.anyF (by assumption) ?_)
          | (refine Br.any (fun h => ?_) (fun h => ?_))
          | (refine Ex1.b64 ?_)
          | (refine Ex1.b64add (by omega) (by omega) ?_)
          | (refine Ex1.b8 ?_)
          | (refine Ex1.i64 (by omega) (by omega) ?_)
          | (refine Ex1.u8 (by omega) (by omega) ?_)
          | (refine Ex1.i32 (by omega) (by omega) ?_)
          | (refine Ex1.u64 (by omega) (by omega) ?_)
          | (refine Need.mk ⟨rfl, rfl⟩ ?_)
          | (refine Need.mk rfl ?_)
          | (refine Need.mk ⟨rfl, rfl, Nat.le_refl _⟩ ?_)
          | (refine Got.by _ (bytesD_enc _) ?_)
          | (refine Need.mk (by omega) ?_)
          | (refine Got.by _ rfl ?_)
          | (refine Need.mk (by first | (simp; omega) | (simp; done) | fail) ?_)
          | (refine Need.mk ⟨rfl, rfl, by first | (simp; omega) | (simp; done) | fail⟩ ?_)
          | (refine Need.mk ⟨rfl, by first | (simp; omega) | (simp; done) | fail⟩ ?_)
          | (refine Need.mk ⟨by first | (simp; omega) | (simp; done) | fail, by first | (simp; omega) | (simp; done) | fail⟩ ?_)
          | fail)
        all_goals conv => whnf
        · refine key (hp2 (by omega)) rfl _ _ (Weak.of ⟨rfl, rfl, rfl, by show some (D.int _ _) = some (D.int _ _); congr 2; omega, trivial⟩ ?_) (by omega)
          show [Blk.box (putAt (boxD p ds) (0 + ((p : Int) - 1).toNat * 1) [D.int .u8 (48 + ((m % 10 : Nat) : Int))])] = _
          rw [show 0 + ((p : Int) - 1).toNat * 1 = p - 1 by omega, encB_digit]
        · refine key (hp2 (by omega)) rfl _ _ (Weak.of ⟨rfl, rfl, rfl, by show some (D.int _ _) = some (D.int _ _); congr 2; omega, trivial⟩ ?_) (by omega)
          show [Blk.box (putAt (boxD p ds) (0 + ((p : Int) - 1).toNat * 1) [D.int .u8 (48 + ((m % 10 : Nat) : Int))])] = _
          rw [show 0 + ((p : Int) - 1).toNat * 1 = p - 1 by omega, encB_digit]
        · have e : digs m ++ ds = body n := by
            rcases i4 with ⟨e1, e2⟩ | ⟨e1, e2⟩
            · omega
            · exact e2
          have hm0 : m = 0 := by omega
          subst hm0
          rw [digs_zero, List.nil_append] at e
          subst e
          exact hK p ⟨i1, i2⟩ _ _ (Weak.of ⟨rfl, rfl, rfl, trivial⟩ rfl)
    · repeat' ((conv => whnf); first
  | (refine Ex1.by n.natAbs (by rw [IntKind.wrap_u64, if_pos (by assumption)]; omega) ?_)
  | (refine sq_keep ?_)
  | (refine Br.yes ?_)
  | (refine Br.no ?_)
  | (refine Br.decT (by assumption) ?_)
  | (refine Br.decF (by assumption) ?_)
  | (refine Br.decF (by omega) ?_)
  | (refine Br.decT (by omega) ?_)
  | (refine Br.dec (fun h => ?_) (fun h => ?_))
  | (refine Br.eqT (by assumption) ?_)
  | (refine Br.eqF (by assumption) ?_)
  | (refine Br.neT (by assumption) ?_)
  | (refine Br.neF (by assumption) ?_)
  | (refine Br.eqT (by omega) ?_)
  | (refine Br.eqF (by omega) ?_)
  | (refine Br.neT (by omega) ?_)
  | (refine Br.neF (by omega) ?_)
  | (refine Br.eqI (fun h => ?_) (fun h => ?_))
  | (refine Br.neI (fun h => ?_) (fun h => ?_))
  | (refine Br.sT (by assumption) ?_)
  | (refine Br.sF (by assumption) ?_)
  | (refine Br.snT (by assumption) ?_)
  | (refine Br.snF (by assumption) ?_)
  | (refine Br.eqS (fun h => ?_) (fun h => ?_))
  | (refine Br.neS (fun h => ?_) (fun h => ?_))
  | (refine Br.not ?_)
  | (refine Br.anyT (by assumption) ?_)
  | (refine Br.anyF (by assumption) ?_)
  | (refine Br.any (fun h => ?_) (fun h => ?_))
  | (refine Ex1.b64 ?_)
  | (refine Ex1.b64add (by omega) (by omega) ?_)
  | (refine Ex1.b8 ?_)
  | (refine Ex1.i64 (by omega) (by omega) ?_)
  | (refine Ex1.u8 (by omega) (by omega) ?_)
  | (refine Ex1.i32 (by omega) (by omega) ?_)
  | (refine Ex1.u64 (by omega) (by omega) ?_)
  | (refine Need.mk ⟨rfl, rfl⟩ ?_)
  | (refine Need.mk rfl ?_)
  | (refine Need.mk ⟨rfl, rfl, Nat.le_refl _⟩ ?_)
  | (refine Got.by _ (bytesD_enc _) ?_)
  | (refine Need.mk (by omega) ?_)
  | (refine Got.by _ rfl ?_)
  | (refine Need.mk (by first | (simp; omega) | (simp; done) | fail) ?_)
  | (refine Need.mk ⟨rfl, rfl, by first | (simp; omega) | (simp; done) | fail⟩ ?_)
  | (refine Need.mk ⟨rfl, by first | (simp; omega) | (simp; done) | fail⟩ ?_)
  | (refine Need.mk ⟨by first | (simp; omega) | (simp; done) | fail, by first | (simp; omega) | (simp; done) | fail⟩ ?_)
  | fail)
      all_goals conv => whnf
      · exact hK trivial _ _ (Weak.of ⟨rfl, rfl, trivial⟩ rfl)
      · exact hK trivial _ _ (Weak.of ⟨rfl, by show some (D.int _ (if n < 0 then _ else n)) = some (D.int _ _); rw [if_neg (by assumption)]; congr 2; omega, trivial⟩ rfl)
  · repeat' ((conv => whnf); first
  | (refine Ex1.by (if n < 0 then n + 18446744073709551616 else n) (by rw [IntKind.wrap_u64]; split <;> omega) ?_)
  | (refine sq_keep ?_)
  | (refine Br.yes ?_)
  | (refine Br.no ?_)
  | (refine Br.decT (by assumption) ?_)
  | (refine Br.decF (by assumption) ?_)
  | (refine Br.decF (by omega) ?_)
  | (refine Br.decT (by omega) ?_)
  | (refine Br.dec (fun h => ?_) (fun h => ?_))
  | (refine Br.eqT (by assumption) ?_)
  | (refine Br.eqF (by assumption) ?_)
  | (refine Br.neT (by assumption) ?_)
  | (refine Br.neF (by assumption) ?_)
  | (refine Br.eqT (by omega) ?_)
  | (refine Br.eqF (by omega) ?_)
  | (refine Br.neT (by omega) ?_)
  | (refine Br.neF (by omega) ?_)
  | (refine Br.eqI (fun h => ?_) (fun h => ?_))
  | (refine Br.neI (fun h => ?_) (fun h => ?_))
  | (refine Br.sT (by assumption) ?_)
  | (refine Br.sF (by assumption) ?_)
  | (refine Br.snT (by assumption) ?_)
  | (refine Br.snF (by assumption) ?_)
  | (refine Br.eqS (fun h => ?_) (fun h => ?_))
  | (refine Br.neS (fun h => ?_) (fun h => ?_))
  | (refine Br.not ?_)
  | (refine Br.anyT (by assumption) ?_)
  | (refine Br.anyF (by assumption) ?_)
  | (refine Br.any (fun h => ?_) (fun h => ?_))
  | (refine Ex1.b64 ?_)
  | (refine Ex1.b64add (by omega) (by omega) ?_)
  | (refine Ex1.b8 ?_)
  | (refine Ex1.i64 (by omega) (by omega) ?_)
  | (refine Ex1.u8 (by omega) (by omega) ?_)
  | (refine Ex1.i32 (by omega) (by omega) ?_)
  | (refine Ex1.u64 (by omega) (by omega) ?_)
  | (refine Need.mk ⟨rfl, rfl⟩ ?_)
  | (refine Need.mk rfl ?_)
  | (refine Need.mk ⟨rfl, rfl, Nat.le_refl _⟩ ?_)
  | (refine Got.by _ (bytesD_enc _) ?_)
  | (refine Need.mk (by omega) ?_)
  | (refine Got.by _ rfl ?_)
  | (refine Need.mk (by first | (simp; omega) | (simp; done) | fail) ?_)
  | (refine Need.mk ⟨rfl, rfl, by first | (simp; omega) | (simp; done) | fail⟩ ?_)
  | (refine Need.mk ⟨rfl, by first | (simp; omega) | (simp; done) | fail⟩ ?_)
  | (refine Need.mk ⟨by first | (simp; omega) | (simp; done) | fail, by first | (simp; omega) | (simp; done) | fail⟩ ?_)
  | fail)
    all_goals conv => whnf
    all_goals exact hK trivial _ _ (Weak.of ⟨rfl, rfl, trivial⟩ rfl)

end Go.Proofs.Ytamckclacocifaa
