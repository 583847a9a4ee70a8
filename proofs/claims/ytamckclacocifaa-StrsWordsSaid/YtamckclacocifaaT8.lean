import Derived.Test.YtamckclacocifaaT7
namespace Go.Proofs.Ytamckclacocifaa
open Go.Ab

theorem ps17' (s : List UInt8) (hs : s.length ≤ 1000000) : PSpec Try.prog 17 [.str s] (.str (s.map (flip 97 122))) := by
  have e : s.map (flip 97 122) = s.map (flipR 97 122 (-32)) := List.map_congr_left fun b _ => (up_same b).symm
  rw [e]; exact ps17 s hs
theorem ps18' (s : List UInt8) (hs : s.length ≤ 1000000) : PSpec Try.prog 18 [.str s] (.str (s.map (flip 65 90))) := by
  have e : s.map (flip 65 90) = s.map (flipR 65 90 32) := List.map_congr_left fun b _ => (lo_same b).symm
  rw [e]; exact ps18 s hs

theorem rt_length (s : List UInt8) : (rt s).length ≤ s.length := by
  have := (List.dropWhile_sublist (fun x : UInt8 => x == 32) (l := s.reverse)).length_le
  simp [rt] at this ⊢; exact this
theorem trimS_length (s : List UInt8) : (trimS s).length ≤ s.length := by
  have h1 := (List.dropWhile_sublist (fun x : UInt8 => x == 32) (l := s)).length_le
  have h2 := rt_length (lt s)
  simp only [trimS, lt] at *
  omega

theorem lt_lt (s : List UInt8) : lt (lt s) = lt s := by
  induction s with
  | nil => rfl
  | cons c s ih =>
    by_cases h : c = 32
    · subst h; rw [lt_cons_eq, ih]
    · rw [lt_cons_ne _ h, lt_cons_ne _ h]
theorem rt_rt (s : List UInt8) : rt (rt s) = rt s := by
  have h : ∀ u : List UInt8, (u.dropWhile (· == 32)).dropWhile (· == 32) = u.dropWhile (· == 32) := lt_lt
  simp only [rt, List.reverse_reverse, h]
/-- What starts with no space starts with none after its end is cut. -/
theorem lt_rt (s : List UInt8) (h : lt s = s) : lt (rt s) = rt s := by
  cases s with
  | nil => rfl
  | cons c s =>
    have hc : c ≠ 32 := by
      intro e
      subst e
      rw [lt_cons_eq] at h
      have := (List.dropWhile_sublist (fun x : UInt8 => x == 32) (l := s)).length_le
      rw [lt] at h
      rw [h] at this
      simp only [List.length_cons] at this
      omega
    have : ∃ u, rt (c :: s) = c :: u := by
      have key : ∀ (v : List UInt8), ∃ u, rt (c :: v) = c :: u := by
        intro v
        induction hn : v.length generalizing v with
        | zero =>
          have : v = [] := List.length_eq_zero_iff.1 hn
          subst this
          exact ⟨[], by have := rt_snoc_ne [] hc; simpa using this⟩
        | succ n ih =>
          obtain ⟨w, d, rfl⟩ : ∃ w d, v = w ++ [d] := ⟨v.dropLast, v.getLast (by intro e; subst e; simp at hn), (List.dropLast_concat_getLast _).symm⟩
          by_cases hd : d = 32
          · subst hd
            obtain ⟨u, hu⟩ := ih w (by simpa using hn)
            exact ⟨u, by rw [← List.cons_append, rt_snoc_eq, hu]⟩
          · exact ⟨w ++ [d], by rw [← List.cons_append, rt_snoc_ne _ hd]⟩
      exact key s
    obtain ⟨u, hu⟩ := this
    rw [hu, lt_cons_ne _ hc]
theorem trim_trim (s : List UInt8) : trimS (trimS s) = trimS s := by
  simp only [trimS]
  rw [lt_rt _ (lt_lt s), rt_rt]

theorem upup (s : List UInt8) : (s.map (flip 97 122)).map (flip 97 122) = s.map (flip 97 122) := by
  rw [List.map_map]; exact List.map_congr_left fun b _ => up_up b
theorem lolo (s : List UInt8) : (s.map (flip 65 90)).map (flip 65 90) = s.map (flip 65 90) := by
  rw [List.map_map]; exact List.map_congr_left fun b _ => lo_lo b
theorem uplo (s : List UInt8) : (s.map (flip 65 90)).map (flip 97 122) = s.map (flip 97 122) := by
  rw [List.map_map]; exact List.map_congr_left fun b _ => up_lo b

theorem ps4 (s : List UInt8) : PSpec Try.prog 4 [.str s] (.bool true) := by
  refine PSpec.of_iw fac4 (by simp) ?_
  have ht := trimS_length s
  refine iw_seq1 True [(0, .str s)] [] (fun _ => ?_) fun K hK => hK trivial _ _ (Weak.of ⟨rfl, trivial⟩ rfl)
  refine iw_seq1 (s.length ≤ 200) [(0, .str s)] [] (fun hl => ?_) fun K hK => ?_
  · refine iw_seq1 True [(0, .str s), (3, .str (s.map (flip 97 122))), (4, .str (s.map (flip 65 90))), (5, .str (trimS s))] [] (fun _ => ?_) fun K hK => ?_
    · refine iw_seq1 True [(0, .str s), (3, .str (s.map (flip 97 122))), (4, .str (s.map (flip 65 90))), (5, .str (trimS s))] [] (fun _ => ?_) fun K hK => ?_
      · repeat' ((conv => whnf); first
  | (refine Cl.p ps12 (by simp) (by simp) ?_)
  | (refine Cl.p (ps14 _ (by first | omega | (simp <;> omega))) (by simp) (by simp) ?_)
  | (refine Cl.p (ps15 _ (by first | omega | (simp <;> omega))) (by simp) (by simp) ?_)
  | (refine Cl.p (ps16 _ (by omega)) (by simp) (by simp) ?_)
  | (refine Cl.p (ps17' _ (by omega)) (by simp) (by simp) ?_)
  | (refine Cl.p (ps18' _ (by omega)) (by simp) (by simp) ?_)
  | (refine Cl.p (ps19 _ (by omega)) (by simp) (by simp) ?_)
  | (refine Br.snF rfl ?_)
  | (refine Br.sT (upup s) ?_)
  | (refine Br.sT (lolo s) ?_)
  | (refine Br.sT (uplo s) ?_)
  | (refine Br.sT (trim_trim s) ?_)
  | (refine Br.eqT (by simp <;> omega) ?_)
  | (refine sq_keep ?_)
  | (refine Br.yes ?_)
  | (refine Br.no ?_)
  | (refine Br.decT (by assumption) ?_)
  | (refine Br.decF (by assumption) ?_)
  | (refine Br.decF (by omega) ?_)
  | (refine Br.decT (by omega) ?_)
  | (refine Br.dec (fun h => ?_) (fun h => ?_))
  | (refine Br.eqT (by assumption) ?_)
  | (refine Br.eqF (by assumption) ?_)
  | (refine Br.neT (by assumption) ?_)
  | (refine Br.neF (by assumption) ?_)
  | (refine Br.eqT (by omega) ?_)
  | (refine Br.eqF (by omega) ?_)
  | (refine Br.neT (by omega) ?_)
  | (refine Br.neF (by omega) ?_)
  | (refine Br.eqI (fun h => ?_) (fun h => ?_))
  | (refine Br.neI (fun h => ?_) (fun h => ?_))
  | (refine Br.sT (by assumption) ?_)
  | (refine Br.sF (by assumption) ?_)
  | (refine Br.snT (by assumption) ?_)
  | (refine Br.snF (by assumption) ?_)
  | (refine Br.eqS (fun h => ?_) (fun h => ?_))
  | (refine Br.neS (fun h => ?_) (fun h => ?_))
  | (refine Br.not ?_)
  | (refine Br.anyT (by assumption) ?_)
  | (refine Br.anyF (by assumption) ?_)
  | (refine Br.any (fun h => ?_) (fun h => ?_))
  | (refine Ex1.b64 ?_)
  | (refine Ex1.b64add (by omega) (by omega) ?_)
  | (refine Ex1.b8 ?_)
  | (refine Ex1.i64 (by omega) (by omega) ?_)
  | (refine Ex1.u8 (by omega) (by omega) ?_)
  | (refine Ex1.i32 (by omega) (by omega) ?_)
  | (refine Ex1.u64 (by omega) (by omega) ?_)
  | (refine Need.mk ⟨rfl, rfl⟩ ?_)
  | (refine Need.mk rfl ?_)
  | (refine Need.mk ⟨rfl, rfl, Nat.le_refl _⟩ ?_)
  | (refine Got.by _ (bytesD_enc _) ?_)
  | (refine Need.mk (by omega) ?_)
  | (refine Got.by _ rfl ?_)
  | (refine Need.mk (by first | (simp; omega) | (simp; done) | fail) ?_)
  | (refine Need.mk ⟨rfl, rfl, by first | (simp; omega) | (simp; done) | fail⟩ ?_)
  | (refine Need.mk ⟨rfl, by first | (simp; omega) | (simp; done) | fail⟩ ?_)
  | (refine Need.mk ⟨by first | (simp; omega) | (simp; done) | fail, by first | (simp; omega) | (simp; done) | fail⟩ ?_)
  | fail)
        all_goals rfl
      · repeat' ((conv => whnf); first
  | (refine Cl.p ps12 (by simp) (by simp) ?_)
  | (refine Cl.p (ps14 _ (by first | omega | (simp <;> omega))) (by simp) (by simp) ?_)
  | (refine Cl.p (ps15 _ (by first | omega | (simp <;> omega))) (by simp) (by simp) ?_)
  | (refine Cl.p (ps16 _ (by omega)) (by simp) (by simp) ?_)
  | (refine Cl.p (ps17' _ (by omega)) (by simp) (by simp) ?_)
  | (refine Cl.p (ps18' _ (by omega)) (by simp) (by simp) ?_)
  | (refine Cl.p (ps19 _ (by omega)) (by simp) (by simp) ?_)
  | (refine Br.snF rfl ?_)
  | (refine Br.sT (upup s) ?_)
  | (refine Br.sT (lolo s) ?_)
  | (refine Br.sT (uplo s) ?_)
  | (refine Br.sT (trim_trim s) ?_)
  | (refine Br.eqT (by simp <;> omega) ?_)
  | (refine sq_keep ?_)
  | (refine Br.yes ?_)
  | (refine Br.no ?_)
  | (refine Br.decT (by assumption) ?_)
  | (refine Br.decF (by assumption) ?_)
  | (refine Br.decF (by omega) ?_)
  | (refine Br.decT (by omega) ?_)
  | (refine Br.dec (fun h => ?_) (fun h => ?_))
  | (refine Br.eqT (by assumption) ?_)
  | (refine Br.eqF (by assumption) ?_)
  | (refine Br.neT (by assumption) ?_)
  | (refine Br.neF (by assumption) ?_)
  | (refine Br.eqT (by omega) ?_)
  | (refine Br.eqF (by omega) ?_)
  | (refine Br.neT (by omega) ?_)
  | (refine Br.neF (by omega) ?_)
  | (refine Br.eqI (fun h => ?_) (fun h => ?_))
  | (refine Br.neI (fun h => ?_) (fun h => ?_))
  | (refine Br.sT (by assumption) ?_)
  | (refine Br.sF (by assumption) ?_)
  | (refine Br.snT (by assumption) ?_)
  | (refine Br.snF (by assumption) ?_)
  | (refine Br.eqS (fun h => ?_) (fun h => ?_))
  | (refine Br.neS (fun h => ?_) (fun h => ?_))
  | (refine Br.not ?_)
  | (refine Br.anyT (by assumption) ?_)
  | (refine Br.anyF (by assumption) ?_)
  | (refine Br.any (fun h => ?_) (fun h => ?_))
  | (refine Ex1.b64 ?_)
  | (refine Ex1.b64add (by omega) (by omega) ?_)
  | (refine Ex1.b8 ?_)
  | (refine Ex1.i64 (by omega) (by omega) ?_)
  | (refine Ex1.u8 (by omega) (by omega) ?_)
  | (refine Ex1.i32 (by omega) (by omega) ?_)
  | (refine Ex1.u64 (by omega) (by omega) ?_)
  | (refine Need.mk ⟨rfl, rfl⟩ ?_)
  | (refine Need.mk rfl ?_)
  | (refine Need.mk ⟨rfl, rfl, Nat.le_refl _⟩ ?_)
  | (refine Got.by _ (bytesD_enc _) ?_)
  | (refine Need.mk (by omega) ?_)
  | (refine Got.by _ rfl ?_)
  | (refine Need.mk (by first | (simp; omega) | (simp; done) | fail) ?_)
  | (refine Need.mk ⟨rfl, rfl, by first | (simp; omega) | (simp; done) | fail⟩ ?_)
  | (refine Need.mk ⟨rfl, by first | (simp; omega) | (simp; done) | fail⟩ ?_)
  | (refine Need.mk ⟨by first | (simp; omega) | (simp; done) | fail, by first | (simp; omega) | (simp; done) | fail⟩ ?_)
  | fail)
        conv => whnf
        exact hK trivial _ _ (Weak.of ⟨rfl, rfl, rfl, rfl, trivial⟩ rfl)
    · repeat' ((conv => whnf); first
  | (refine Cl.p ps12 (by simp) (by simp) ?_)
  | (refine Cl.p (ps14 _ (by first | omega | (simp <;> omega))) (by simp) (by simp) ?_)
  | (refine Cl.p (ps15 _ (by first | omega | (simp <;> omega))) (by simp) (by simp) ?_)
  | (refine Cl.p (ps16 _ (by omega)) (by simp) (by simp) ?_)
  | (refine Cl.p (ps17' _ (by omega)) (by simp) (by simp) ?_)
  | (refine Cl.p (ps18' _ (by omega)) (by simp) (by simp) ?_)
  | (refine Cl.p (ps19 _ (by omega)) (by simp) (by simp) ?_)
  | (refine Br.snF rfl ?_)
  | (refine Br.sT (upup s) ?_)
  | (refine Br.sT (lolo s) ?_)
  | (refine Br.sT (uplo s) ?_)
  | (refine Br.sT (trim_trim s) ?_)
  | (refine Br.eqT (by simp <;> omega) ?_)
  | (refine sq_keep ?_)
  | (refine Br.yes ?_)
  | (refine Br.no ?_)
  | (refine Br.decT (by assumption) ?_)
  | (refine Br.decF (by assumption) ?_)
  | (refine Br.decF (by omega) ?_)
  | (refine Br.decT (by omega) ?_)
  | (refine Br.dec (fun h => ?_) (fun h => ?_))
  | (refine Br.eqT (by assumption) ?_)
  | (refine Br.eqF (by assumption) ?_)
  | (refine Br.neT (by assumption) ?_)
  | (refine Br.neF (by assumption) ?_)
  | (refine Br.eqT (by omega) ?_)
  | (refine Br.eqF (by omega) ?_)
  | (refine Br.neT (by omega) ?_)
  | (refine Br.neF (by omega) ?_)
  | (refine Br.eqI (fun h => ?_) (fun h => ?_))
  | (refine Br.neI (fun h => ?_) (fun h => ?_))
  | (refine Br.sT (by assumption) ?_)
  | (refine Br.sF (by assumption) ?_)
  | (refine Br.snT (by assumption) ?_)
  | (refine Br.snF (by assumption) ?_)
  | (refine Br.eqS (fun h => ?_) (fun h => ?_))
  | (refine Br.neS (fun h => ?_) (fun h => ?_))
  | (refine Br.not ?_)
  | (refine Br.anyT (by assumption) ?_)
  | (refine Br.anyF (by assumption) ?_)
  | (refine Br.any (fun h => ?_) (fun h => ?_))
  | (refine Ex1.b64 ?_)
  | (refine Ex1.b64add (by omega) (by omega) ?_)
  | (refine Ex1.b8 ?_)
  | (refine Ex1.i64 (by omega) (by omega) ?_)
  | (refine Ex1.u8 (by omega) (by omega) ?_)
  | (refine Ex1.i32 (by omega) (by omega) ?_)
  | (refine Ex1.u64 (by omega) (by omega) ?_)
  | (refine Need.mk ⟨rfl, rfl⟩ ?_)
  | (refine Need.mk rfl ?_)
  | (refine Need.mk ⟨rfl, rfl, Nat.le_refl _⟩ ?_)
  | (refine Got.by _ (bytesD_enc _) ?_)
  | (refine Need.mk (by omega) ?_)
  | (refine Got.by _ rfl ?_)
  | (refine Need.mk (by first | (simp; omega) | (simp; done) | fail) ?_)
  | (refine Need.mk ⟨rfl, rfl, by first | (simp; omega) | (simp; done) | fail⟩ ?_)
  | (refine Need.mk ⟨rfl, by first | (simp; omega) | (simp; done) | fail⟩ ?_)
  | (refine Need.mk ⟨by first | (simp; omega) | (simp; done) | fail, by first | (simp; omega) | (simp; done) | fail⟩ ?_)
  | fail)
      conv => whnf
      exact hK trivial _ _ (Weak.of ⟨rfl, rfl, rfl, rfl, trivial⟩ rfl)
  · repeat' ((conv => whnf); first
  | (refine Cl.p ps12 (by simp) (by simp) ?_)
  | (refine Cl.p (ps14 _ (by first | omega | (simp <;> omega))) (by simp) (by simp) ?_)
  | (refine Cl.p (ps15 _ (by first | omega | (simp <;> omega))) (by simp) (by simp) ?_)
  | (refine Cl.p (ps16 _ (by omega)) (by simp) (by simp) ?_)
  | (refine Cl.p (ps17' _ (by omega)) (by simp) (by simp) ?_)
  | (refine Cl.p (ps18' _ (by omega)) (by simp) (by simp) ?_)
  | (refine Cl.p (ps19 _ (by omega)) (by simp) (by simp) ?_)
  | (refine Br.snF rfl ?_)
  | (refine Br.sT (upup s) ?_)
  | (refine Br.sT (lolo s) ?_)
  | (refine Br.sT (uplo s) ?_)
  | (refine Br.sT (trim_trim s) ?_)
  | (refine Br.eqT (by simp <;> omega) ?_)
  | (refine sq_keep ?_)
  | (refine Br.yes ?_)
  | (refine Br.no ?_)
  | (refine Br.decT (by assumption) ?_)
  | (refine Br.decF (by assumption) ?_)
  | (refine Br.decF (by omega) ?_)
  | (refine Br.decT (by omega) ?_)
  | (refine Br.dec (fun h => ?_) (fun h => ?_))
  | (refine Br.eqT (by assumption) ?_)
  | (refine Br.eqF (by assumption) ?_)
  | (refine Br.neT (by assumption) ?_)
  | (refine Br.neF (by assumption) ?_)
  | (refine Br.eqT (by omega) ?_)
  | (refine Br.eqF (by omega) ?_)
  | (refine Br.neT (by omega) ?_)
  | (refine Br.neF (by omega) ?_)
  | (refine Br.eqI (fun h => ?_) (fun h => ?_))
  | (refine Br.neI (fun h => ?_) (fun h => ?_))
  | (refine Br.sT (by assumption) ?_)
  | (refine Br.sF (by assumption) ?_)
  | (refine Br.snT (by assumption) ?_)
  | (refine Br.snF (by assumption) ?_)
  | (refine Br.eqS (fun h => ?_) (fun h => ?_))
  | (refine Br.neS (fun h => ?_) (fun h => ?_))
  | (refine Br.not ?_)
  | (refine Br.anyT (by assumption) ?_)
  | (refine Br.anyF (by assumption) ?_)
  | (refine Br.any (fun h => ?_) (fun h => ?_))
  | (refine Ex1.b64 ?_)
  | (refine Ex1.b64add (by omega) (by omega) ?_)
  | (refine Ex1.b8 ?_)
  | (refine Ex1.i64 (by omega) (by omega) ?_)
  | (refine Ex1.u8 (by omega) (by omega) ?_)
  | (refine Ex1.i32 (by omega) (by omega) ?_)
  | (refine Ex1.u64 (by omega) (by omega) ?_)
  | (refine Need.mk ⟨rfl, rfl⟩ ?_)
  | (refine Need.mk rfl ?_)
  | (refine Need.mk ⟨rfl, rfl, Nat.le_refl _⟩ ?_)
  | (refine Got.by _ (bytesD_enc _) ?_)
  | (refine Need.mk (by omega) ?_)
  | (refine Got.by _ rfl ?_)
  | (refine Need.mk (by first | (simp; omega) | (simp; done) | fail) ?_)
  | (refine Need.mk ⟨rfl, rfl, by first | (simp; omega) | (simp; done) | fail⟩ ?_)
  | (refine Need.mk ⟨rfl, by first | (simp; omega) | (simp; done) | fail⟩ ?_)
  | (refine Need.mk ⟨by first | (simp; omega) | (simp; done) | fail, by first | (simp; omega) | (simp; done) | fail⟩ ?_)
  | fail)
    conv => whnf
    · exact hK (by omega) _ _ (Weak.of ⟨rfl, trivial⟩ rfl)

end Go.Proofs.Ytamckclacocifaa
