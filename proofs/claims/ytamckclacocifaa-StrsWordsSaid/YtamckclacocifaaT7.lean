import Derived.Test.YtamckclacocifaaT6
namespace Go.Proofs.Ytamckclacocifaa
open Go.Ab

theorem szAll_enc (l : List UInt8) : szAll 1 (l.map encB) = true := by
  simp only [szAll, List.all_map, List.all_eq_true]
  intro x _; rfl
theorem goodAll_enc (l : List UInt8) : goodAll (l.map encB) = true := by
  simp only [goodAll, List.all_map, List.all_eq_true]
  intro x _; rfl

theorem digs_len : ∀ (k m : Nat), m < 10 ^ k → (digs m).length ≤ k
  | 0, m, h => by
    have : m = 0 := by simpa using h
    subst this; simp [digs_zero]
  | k + 1, m, h => by
    by_cases h0 : m = 0
    · subst h0; simp [digs_zero]
    · rw [digs_pos h0]
      have := digs_len k (m / 10) (pow_div h)
      simp; omega

theorem ps31 (n : Int) (h1 : -9223372036854775808 ≤ n) (h2 : n ≤ 9223372036854775807) : PSpec Try.prog 31 [.int .i64 n] (.str (showS n)) := by
  refine PSpec.of_iw fac31 (by simp) ?_
  refine iw_seq1 True [(0, .int .i64 n)] [] (fun _ => ?_) fun K hK => hK trivial _ _ (Weak.of ⟨rfl, trivial⟩ rfl)
  refine iw_seq1 (n ≠ 0) [(0, .int .i64 n)] [] (fun hn => ?_) fun K hK => ?_
  · refine iw_seq1 True [(3, .list []), (0, .int .i64 n)] [] (fun _ => ?_) fun K hK => hK trivial _ _ (Weak.trans (Weak.of (l := [(3, .nils), (0, .int .i64 n)]) ⟨rfl, rfl, trivial⟩ rfl) (Weak.nilList 3 _ _))
    refine iw_seq1 True [(0, .int .i64 n), (3, .list ((digs n.natAbs).map encB))] [] (fun _ => ?_) fun K hK => ?_
    · have hl : (digs n.natAbs).length ≤ 20 := digs_len 20 _ (by omega)
      repeat' ((conv => whnf); first
        | (refine sq_keep ?_)
        | (refine Br.yes ?_)
        | (refine Br.no ?_)
        | (refine Br.decT (by assumption) ?_)
        | (refine Br.decF (by assumption) ?_)
        | (refine Br.decF (by omega) ?_)
        | (refine Br.decT (by omega) ?_)
        | (refine Br.dec (fun h => ?_) (fun h => ?_))
        | (refine Br.eqT (by assumption) ?_)
        | (refine Br.eqF (by assumption) ?_)
        | (refine Br.neT (by assumption) ?_)
        | (refine Br.neF (by assumption) ?_)
        | (refine Br.eqT (by omega) ?_)
        | (refine Br.eqF (by omega) ?_)
        | (refine Br.neT (by omega) ?_)
        | (refine Br.neF (by omega) ?_)
        | (refine Br.eqI (fun h => ?_) (fun h => ?_))
        | (refine Br.neI (fun h => ?_) (fun h => ?_))
        | (refine Br.sT (by assumption) ?_)
        | (refine Br.sF (by assumption) ?_)
        | (refine Br.snT (by assumption) ?_)
        | (refine Br.snF (by assumption) ?_)
        | (refine Br.eqS (fun h => ?_) (fun h => ?_))
        | (refine Br.neS (fun h => ?_) (fun h => ?_))
        | (refine Br.not ?_)
        | (refine Br.anyT (by assumption) ?_)
        | (refine Br.anyF (by assumption) ?_)
        | (refine Br.any (fun h => ?_) (fun h => ?_))
        | (refine Ex1.b64 ?_)
        | (refine Ex1.b64add (by omega) (by omega) ?_)
        | (refine Ex1.b8 ?_)
        | (refine Ex1.i64 (by omega) (by omega) ?_)
        | (refine Ex1.u8 (by omega) (by omega) ?_)
        | (refine Ex1.i32 (by omega) (by omega) ?_)
        | (refine Ex1.u64 (by omega) (by omega) ?_)
        | (refine Need.mk ⟨rfl, rfl⟩ ?_)
        | (refine Need.mk rfl ?_)
        | (refine Need.mk ⟨rfl, rfl, Nat.le_refl _⟩ ?_)
        | (refine Got.by _ (bytesD_enc _) ?_)
        | (refine Need.mk (by omega) ?_)
        | (refine Got.by _ rfl ?_)
        | (refine Need.mk (by first | (simp; omega) | (simp; done) | fail) ?_)
        | (refine Need.mk ⟨rfl, rfl, by first | (simp; omega) | (simp; done) | fail⟩ ?_)
        | (refine Need.mk ⟨rfl, by first | (simp; omega) | (simp; done) | fail⟩ ?_)
        | (refine Need.mk ⟨by first | (simp; omega) | (simp; done) | fail, by first | (simp; omega) | (simp; done) | fail⟩ ?_)
        | fail)
      all_goals conv => whnf
      · show D.str ([45] ++ digs n.natAbs) = _
        rw [showS, if_pos h, body, if_neg hn]; rfl
      · rw [showS, if_neg h, body, if_neg hn]
    · repeat' ((conv => whnf); first
  | (refine sq_keep ?_)
  | (refine Br.yes ?_)
  | (refine Br.no ?_)
  | (refine Br.decT (by assumption) ?_)
  | (refine Br.decF (by assumption) ?_)
  | (refine Br.decF (by omega) ?_)
  | (refine Br.decT (by omega) ?_)
  | (refine Br.dec (fun h => ?_) (fun h => ?_))
  | (refine Br.eqT (by assumption) ?_)
  | (refine Br.eqF (by assumption) ?_)
  | (refine Br.neT (by assumption) ?_)
  | (refine Br.neF (by assumption) ?_)
  | (refine Br.eqT (by omega) ?_)
  | (refine Br.eqF (by omega) ?_)
  | (refine Br.neT (by omega) ?_)
  | (refine Br.neF (by omega) ?_)
  | (refine Br.eqI (fun h => ?_) (fun h => ?_))
  | (refine Br.neI (fun h => ?_) (fun h => ?_))
  | (refine Br.sT (by assumption) ?_)
  | (refine Br.sF (by assumption) ?_)
  | (refine Br.snT (by assumption) ?_)
  | (refine Br.snF (by assumption) ?_)
  | (refine Br.eqS (fun h => ?_) (fun h => ?_))
  | (refine Br.neS (fun h => ?_) (fun h => ?_))
  | (refine Br.not ?_)
  | (refine Br.anyT (by assumption) ?_)
  | (refine Br.anyF (by assumption) ?_)
  | (refine Br.any (fun h => ?_) (fun h => ?_))
  | (refine Ex1.b64 ?_)
  | (refine Ex1.b64add (by omega) (by omega) ?_)
  | (refine Ex1.b8 ?_)
  | (refine Ex1.i64 (by omega) (by omega) ?_)
  | (refine Ex1.u8 (by omega) (by omega) ?_)
  | (refine Ex1.i32 (by omega) (by omega) ?_)
  | (refine Ex1.u64 (by omega) (by omega) ?_)
  | (refine Need.mk ⟨rfl, rfl⟩ ?_)
  | (refine Need.mk rfl ?_)
  | (refine Need.mk ⟨rfl, rfl, Nat.le_refl _⟩ ?_)
  | (refine Got.by _ (bytesD_enc _) ?_)
  | (refine Need.mk (by omega) ?_)
  | (refine Got.by _ rfl ?_)
  | (refine Need.mk (by first | (simp; omega) | (simp; done) | fail) ?_)
  | (refine Need.mk ⟨rfl, rfl, by first | (simp; omega) | (simp; done) | fail⟩ ?_)
  | (refine Need.mk ⟨rfl, by first | (simp; omega) | (simp; done) | fail⟩ ?_)
  | (refine Need.mk ⟨by first | (simp; omega) | (simp; done) | fail, by first | (simp; omega) | (simp; done) | fail⟩ ?_)
  | fail)
      refine iw_loop (σ := Int × List UInt8) (fun s => s.1.natAbs ≤ n.natAbs ∧ digs s.1.natAbs ++ s.2 = digs n.natAbs ∧ s.2.length ≤ 20) (fun s => s.1.natAbs)
        (fun s => [(0, .int .i64 n), (3, .list (s.2.map encB)), (4, .int .i64 s.1)]) (fun _ => []) (n, [])
        ⟨by omega, by simp, by simp⟩ (Weak.of ⟨rfl, rfl, rfl, trivial⟩ rfl) ?_
      rintro ⟨m, ds⟩ ⟨i1, i2, i3⟩ K2 hK2
      simp only at i1 i2 i3
      have e10 : (m.tmod 10).natAbs = m.natAbs % 10 := Int.natAbs_tmod m 10
      have e11 : (m.tdiv 10).natAbs = m.natAbs / 10 := Int.natAbs_tdiv m 10
      change iw Try.prog 0 _ _ (tm [(0, .int .i64 n), (3, .list (ds.map encB)), (4, .int .i64 m)]) []
      have fin : ∀ (c : Int) t1 h1, c = ((m.natAbs % 10 : Nat) : Int) → m ≠ 0 → Weak 0 t1 h1 (tm [(3, .ref 0 (1 + (ds.map encB).length)), (0, .int .i64 n), (4, .int .i64 (m.tdiv 10))]) [.slice 1 5 ([.int .u8 (48 + c)] ++ ds.map encB)] → K2 t1 h1 := by
        intro c t1 h1 hc hm hw
        subst hc
        have hi2 : digs (m.tdiv 10).natAbs ++ UInt8.ofNat (48 + m.natAbs % 10) :: ds = digs n.natAbs := by
          rw [← i2, e11, digs_pos (m := m.natAbs) (by omega)]; simp
        refine hK2 (m.tdiv 10, UInt8.ofNat (48 + m.natAbs % 10) :: ds) (by show (m.tdiv 10).natAbs < m.natAbs; omega) ⟨by show (m.tdiv 10).natAbs ≤ _; omega, hi2, ?_⟩ _ _ ?_
        · have hl : (digs n.natAbs).length ≤ 20 := digs_len 20 _ (by omega)
          rw [← hi2] at hl
          simp at hl ⊢; omega
        · refine Weak.trans hw (Weak.trans (Weak.sealed (esz := 1) (ty := 5) rfl (by simp; omega)) ?_)
          refine Weak.cut' (g := [.dead]) ⟨rfl, ?_, rfl, trivial⟩ rfl (by simp) ?_ (by simp)
          · show some (D.list _) = some (D.list _)
            rw [List.map_cons, encB_digit]; rfl
          · intro p hp
            simp only [List.mem_cons, List.not_mem_nil, or_false] at hp
            rcases hp with rfl | rfl | rfl
            · exact .int _ _
            · exact Bd.list_iff.2 (Bd.encs _ _)
            · exact .int _ _
      repeat' ((conv => whnf); first
        | (refine Need.mk (by decide) (Ex1.by (m.tdiv 10) (by rw [IntKind.wrap_i64]; omega) ?_))
        | (refine Need.mk (by decide) (Ex1.same ?_))
        | (refine Need.mk ⟨szAll_enc _, goodAll_enc _⟩ ?_)
        | (refine sq_keep ?_)
        | (refine Br.yes ?_)
        | (refine Br.no ?_)
        | (refine Br.decT (by assumption) ?_)
        | (refine Br.decF (by assumption) ?_)
        | (refine Br.decF (by omega) ?_)
        | (refine Br.decT (by omega) ?_)
        | (refine Br.dec (fun h => ?_) (fun h => ?_))
        | (refine Br.eqT (by assumption) ?_)
        | (refine Br.eqF (by assumption) ?_)
        | (refine Br.neT (by assumption) ?_)
        | (refine Br.neF (by assumption) ?_)
        | (refine Br.eqT (by omega) ?_)
        | (refine Br.eqF (by omega) ?_)
        | (refine Br.neT (by omega) ?_)
        | (refine Br.neF (by omega) ?_)
        | (refine Br.eqI (fun h => ?_) (fun h => ?_))
        | (refine Br.neI (fun h => ?_) (fun h => ?_))
        | (refine Br.sT (by assumption) ?_)
        | (refine Br.sF (by assumption) ?_)
        | (refine Br.snT (by assumption) ?_)
        | (refine Br.snF (by assumption) ?_)
        | (refine Br.eqS (fun h => ?_) (fun h => ?_))
        | (refine Br.neS (fun h => ?_) (fun h => ?_))
        | (refine Br.not ?_)
        | (refine Br.anyT (by assumption) ?_)
        | (refine Br.anyF (by assumption) ?_)
        | (refine Br.any (fun h => ?_) (fun h => ?_))
        | (refine Ex1.b64 ?_)
        | (refine Ex1.b64add (by omega) (by omega) ?_)
        | (refine Ex1.b8 ?_)
        | (refine Ex1.i64 (by omega) (by omega) ?_)
        | (refine Ex1.u8 (by omega) (by omega) ?_)
        | (refine Ex1.i32 (by omega) (by omega) ?_)
        | (refine Ex1.u64 (by omega) (by omega) ?_)
        | (refine Need.mk ⟨rfl, rfl⟩ ?_)
        | (refine Need.mk rfl ?_)
        | (refine Need.mk ⟨rfl, rfl, Nat.le_refl _⟩ ?_)
        | (refine Got.by _ (bytesD_enc _) ?_)
        | (refine Need.mk (by omega) ?_)
        | (refine Got.by _ rfl ?_)
        | (refine Need.mk (by first | (simp; omega) | (simp; done) | fail) ?_)
        | (refine Need.mk ⟨rfl, rfl, by first | (simp; omega) | (simp; done) | fail⟩ ?_)
        | (refine Need.mk ⟨rfl, by first | (simp; omega) | (simp; done) | fail⟩ ?_)
        | (refine Need.mk ⟨by first | (simp; omega) | (simp; done) | fail, by first | (simp; omega) | (simp; done) | fail⟩ ?_)
        | fail)
      all_goals conv => whnf
      · exact fin (0 - m.tmod 10) _ _ (by omega) (by assumption) (Weak.of ⟨rfl, rfl, rfl, trivial⟩ rfl)
      · exact fin (m.tmod 10) _ _ (by omega) (by assumption) (Weak.of ⟨rfl, rfl, rfl, trivial⟩ rfl)
      · subst h
        rw [show (0 : Int).natAbs = 0 from rfl, digs_zero, List.nil_append] at i2
        subst i2
        exact hK trivial _ _ (Weak.of ⟨rfl, rfl, trivial⟩ rfl)
  · repeat' ((conv => whnf); first
  | (refine sq_keep ?_)
  | (refine Br.yes ?_)
  | (refine Br.no ?_)
  | (refine Br.decT (by assumption) ?_)
  | (refine Br.decF (by assumption) ?_)
  | (refine Br.decF (by omega) ?_)
  | (refine Br.decT (by omega) ?_)
  | (refine Br.dec (fun h => ?_) (fun h => ?_))
  | (refine Br.eqT (by assumption) ?_)
  | (refine Br.eqF (by assumption) ?_)
  | (refine Br.neT (by assumption) ?_)
  | (refine Br.neF (by assumption) ?_)
  | (refine Br.eqT (by omega) ?_)
  | (refine Br.eqF (by omega) ?_)
  | (refine Br.neT (by omega) ?_)
  | (refine Br.neF (by omega) ?_)
  | (refine Br.eqI (fun h => ?_) (fun h => ?_))
  | (refine Br.neI (fun h => ?_) (fun h => ?_))
  | (refine Br.sT (by assumption) ?_)
  | (refine Br.sF (by assumption) ?_)
  | (refine Br.snT (by assumption) ?_)
  | (refine Br.snF (by assumption) ?_)
  | (refine Br.eqS (fun h => ?_) (fun h => ?_))
  | (refine Br.neS (fun h => ?_) (fun h => ?_))
  | (refine Br.not ?_)
  | (refine Br.anyT (by assumption) ?_)
  | (refine Br.anyF (by assumption) ?_)
  | (refine Br.any (fun h => ?_) (fun h => ?_))
  | (refine Ex1.b64 ?_)
  | (refine Ex1.b64add (by omega) (by omega) ?_)
  | (refine Ex1.b8 ?_)
  | (refine Ex1.i64 (by omega) (by omega) ?_)
  | (refine Ex1.u8 (by omega) (by omega) ?_)
  | (refine Ex1.i32 (by omega) (by omega) ?_)
  | (refine Ex1.u64 (by omega) (by omega) ?_)
  | (refine Need.mk ⟨rfl, rfl⟩ ?_)
  | (refine Need.mk rfl ?_)
  | (refine Need.mk ⟨rfl, rfl, Nat.le_refl _⟩ ?_)
  | (refine Got.by _ (bytesD_enc _) ?_)
  | (refine Need.mk (by omega) ?_)
  | (refine Got.by _ rfl ?_)
  | (refine Need.mk (by first | (simp; omega) | (simp; done) | fail) ?_)
  | (refine Need.mk ⟨rfl, rfl, by first | (simp; omega) | (simp; done) | fail⟩ ?_)
  | (refine Need.mk ⟨rfl, by first | (simp; omega) | (simp; done) | fail⟩ ?_)
  | (refine Need.mk ⟨by first | (simp; omega) | (simp; done) | fail, by first | (simp; omega) | (simp; done) | fail⟩ ?_)
  | fail)
    all_goals conv => whnf
    · rename_i h; subst h; rfl
    · exact hK h _ _ (Weak.of ⟨rfl, trivial⟩ rfl)

theorem ps12 : PSpec Try.prog 12 [] (.bool true) := by
  refine PSpec.of_iw fac12 (by simp) ?_
  repeat' ((conv => whnf); first
    | (refine Cl.p (ps14 [97, 66, 49] (by simp)) (by simp) (by simp) ?_)
    | (refine Cl.p (ps28 [97, 98] [99] (by simp) (by simp)) (by simp) (by simp) ?_)
    | (refine Cl.p (ps30 (-7) (by omega) (by omega)) (by simp) (by simp) ?_)
    | (refine sq_keep ?_)
    | (refine Br.yes ?_)
    | (refine Br.no ?_)
    | (refine Br.decT (by assumption) ?_)
    | (refine Br.decF (by assumption) ?_)
    | (refine Br.decF (by omega) ?_)
    | (refine Br.decT (by omega) ?_)
    | (refine Br.dec (fun h => ?_) (fun h => ?_))
    | (refine Br.eqT (by assumption) ?_)
    | (refine Br.eqF (by assumption) ?_)
    | (refine Br.neT (by assumption) ?_)
    | (refine Br.neF (by assumption) ?_)
    | (refine Br.eqT (by omega) ?_)
    | (refine Br.eqF (by omega) ?_)
    | (refine Br.neT (by omega) ?_)
    | (refine Br.neF (by omega) ?_)
    | (refine Br.eqI (fun h => ?_) (fun h => ?_))
    | (refine Br.neI (fun h => ?_) (fun h => ?_))
    | (refine Br.sT (by assumption) ?_)
    | (refine Br.sF (by assumption) ?_)
    | (refine Br.snT (by assumption) ?_)
    | (refine Br.snF (by assumption) ?_)
    | (refine Br.eqS (fun h => ?_) (fun h => ?_))
    | (refine Br.neS (fun h => ?_) (fun h => ?_))
    | (refine Br.not ?_)
    | (refine Br.anyT (by assumption) ?_)
    | (refine Br.anyF (by assumption) ?_)
    | (refine Br.any (fun h => ?_) (fun h => ?_))
    | (refine Ex1.b64 ?_)
    | (refine Ex1.b64add (by omega) (by omega) ?_)
    | (refine Ex1.b8 ?_)
    | (refine Ex1.i64 (by omega) (by omega) ?_)
    | (refine Ex1.u8 (by omega) (by omega) ?_)
    | (refine Ex1.i32 (by omega) (by omega) ?_)
    | (refine Ex1.u64 (by omega) (by omega) ?_)
    | (refine Need.mk ⟨rfl, rfl⟩ ?_)
    | (refine Need.mk rfl ?_)
    | (refine Need.mk ⟨rfl, rfl, Nat.le_refl _⟩ ?_)
    | (refine Got.by _ (bytesD_enc _) ?_)
    | (refine Need.mk (by omega) ?_)
    | (refine Got.by _ rfl ?_)
    | (refine Need.mk (by first | (simp; omega) | (simp; done) | fail) ?_)
    | (refine Need.mk ⟨rfl, rfl, by first | (simp; omega) | (simp; done) | fail⟩ ?_)
    | (refine Need.mk ⟨rfl, by first | (simp; omega) | (simp; done) | fail⟩ ?_)
    | (refine Need.mk ⟨by first | (simp; omega) | (simp; done) | fail, by first | (simp; omega) | (simp; done) | fail⟩ ?_)
    | fail)
  all_goals conv => whnf
  have e : showS (-7) = [45, 55] := by
    rw [showS, if_pos (by decide), body, if_neg (by decide)]
    show 45 :: digs 7 = _
    rw [digs_pos (by decide)]
    show 45 :: (digs 0 ++ _) = _
    rw [digs_zero]; rfl
  rw [e]; rfl

end Go.Proofs.Ytamckclacocifaa
