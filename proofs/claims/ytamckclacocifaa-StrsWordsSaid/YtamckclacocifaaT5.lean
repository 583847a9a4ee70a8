import Derived.Test.YtamckclacocifaaT4
namespace Go.Proofs.Ytamckclacocifaa
open Go.Ab

def lt (s : List UInt8) : List UInt8 := s.dropWhile (· == 32)
def rt (s : List UInt8) : List UInt8 := (s.reverse.dropWhile (· == 32)).reverse
def trimS (s : List UInt8) : List UInt8 := rt (lt s)

theorem rt_snoc_eq (u : List UInt8) : rt (u ++ [32]) = rt u := by simp [rt]
theorem rt_snoc_ne (u : List UInt8) {c : UInt8} (h : c ≠ 32) : rt (u ++ [c]) = u ++ [c] := by simp [rt, h]
theorem rt_nil : rt [] = [] := rfl
theorem lt_cons_eq (u : List UInt8) : lt (32 :: u) = lt u := by simp [lt]
theorem lt_cons_ne (u : List UInt8) {c : UInt8} (h : c ≠ 32) : lt (c :: u) = c :: u := by simp [lt, h]
theorem lt_nil : lt [] = [] := rfl

theorem drop_getD {s : List UInt8} {i : Nat} (h : i < s.length) : s.drop i = s.getD i 0 :: s.drop (i + 1) := by
  rw [List.drop_eq_getElem_cons h]; simp [h]
theorem take_getD {s : List UInt8} {i : Nat} (h : i < s.length) : s.take (i + 1) = s.take i ++ [s.getD i 0] := by
  rw [List.take_add_one]; simp [h]
theorem u8_ne {x y : UInt8} (h : (x.toNat : Int) ≠ (y.toNat : Int)) : x ≠ y := fun e => h (by rw [e])

theorem ps16 (s : List UInt8) (hs : s.length ≤ 1000000) : PSpec Try.prog 16 [.str s] (.str (trimS s)) := by
  refine PSpec.of_iw fac16 (by simp) ?_
  refine iw_seq1 True [(0, .str s)] [] (fun _ => ?_) fun K hK => hK trivial _ _ (Weak.of ⟨rfl, trivial⟩ rfl)
  refine iw_seq1 True [(0, .str s), (3, .int .i64 (0 : Nat)), (4, .int .i64 s.length)] [] (fun _ => ?_) fun K hK => hK trivial _ _ (Weak.of ⟨rfl, rfl, rfl, trivial⟩ rfl)
  refine iw_seq (σ := Nat) (fun i => i ≤ s.length ∧ s.drop i = lt s) (fun i => [(0, .str s), (3, .int .i64 i), (4, .int .i64 s.length)]) (fun _ => []) (fun i hi => ?_) fun K hK => ?_
  · refine iw_seq (σ := Nat) (fun j => i ≤ j ∧ j ≤ s.length ∧ (s.take j).drop i = trimS s) (fun j => [(0, .str s), (3, .int .i64 i), (4, .int .i64 j)]) (fun _ => []) (fun j hj => ?_) fun K hK => ?_
    · repeat' ((conv => whnf); first
  | (refine sq_keep ?_)
  | (refine Br.yes ?_)
  | (refine Br.no ?_)
  | (refine Br.decT (by assumption) ?_)
  | (refine Br.decF (by assumption) ?_)
  | (refine Br.decF (by omega) ?_)
  | (refine Br.decT (by omega) ?_)
  | (refine Br.dec (fun h => ?_) (fun h => ?_))
  | (refine Br.eqT (by assumption) ?_)
  | (refine Br.eqF (by assumption) ?_)
  | (refine Br.neT (by assumption) ?_)
  | (refine Br.neF (by assumption) ?_)
  | (refine Br.eqT (by omega) ?_)
  | (refine Br.eqF (by omega) ?_)
  | (refine Br.neT (by omega) ?_)
  | (refine Br.neF (by omega) ?_)
  | (refine Br.eqI (fun h => ?_) (fun h => ?_))
  | (refine Br.neI (fun h => ?_) (fun h => ?_))
  | (refine Br.sT (by assumption) ?_)
  | (refine Br.sF (by assumption) ?_)
  | (refine Br.snT (by assumption) ?_)
  | (refine Br.snF (by assumption) ?_)
  | (refine Br.eqS (fun h => ?_) (fun h => ?_))
  | (refine Br.neS (fun h => ?_) (fun h => ?_))
  | (refine Br.not ?_)
  | (refine Br.anyT (by assumption) ?_)
  | (refine Br.anyF (by assumption) ?_)
  | (refine Br.any (fun h => ?_) (fun h => ?_))
  | (refine Ex1.b64 ?_)
  | (refine Ex1.b64add (by omega) (by omega) ?_)
  | (refine Ex1.b8 ?_)
  | (refine Ex1.i64 (by omega) (by omega) ?_)
  | (refine Ex1.u8 (by omega) (by omega) ?_)
  | (refine Ex1.i32 (by omega) (by omega) ?_)
  | (refine Ex1.u64 (by omega) (by omega) ?_)
  | (refine Need.mk ⟨rfl, rfl⟩ ?_)
  | (refine Need.mk rfl ?_)
  | (refine Need.mk ⟨rfl, rfl, Nat.le_refl _⟩ ?_)
  | (refine Got.by _ (bytesD_enc _) ?_)
  | (refine Need.mk (by omega) ?_)
  | (refine Got.by _ rfl ?_)
  | (refine Need.mk (by first | (simp; omega) | (simp; done) | fail) ?_)
  | (refine Need.mk ⟨rfl, rfl, by first | (simp; omega) | (simp; done) | fail⟩ ?_)
  | (refine Need.mk ⟨rfl, by first | (simp; omega) | (simp; done) | fail⟩ ?_)
  | (refine Need.mk ⟨by first | (simp; omega) | (simp; done) | fail, by first | (simp; omega) | (simp; done) | fail⟩ ?_)
  | fail)
      conv => whnf
      rw [← hj.2.2, List.drop_take]
      rfl
    · conv => whnf
      refine iw_loop (σ := Nat) (fun j => i ≤ j ∧ j ≤ s.length ∧ rt ((s.take j).drop i) = trimS s) (fun j => j) (fun j => [(0, .str s), (3, .int .i64 i), (4, .int .i64 j)]) (fun _ => []) s.length
        ⟨by omega, by omega, by rw [List.take_length, hi.2]; rfl⟩ (Weak.of ⟨rfl, rfl, rfl, trivial⟩ rfl) fun j hj K2 hK2 => ?_
      repeat' ((conv => whnf); first
        | (refine sq_keep ?_)
        | (refine Br.yes ?_)
        | (refine Br.no ?_)
        | (refine Br.decT (by assumption) ?_)
        | (refine Br.decF (by assumption) ?_)
        | (refine Br.decF (by omega) ?_)
        | (refine Br.decT (by omega) ?_)
        | (refine Br.dec (fun h => ?_) (fun h => ?_))
        | (refine Br.eqT (by assumption) ?_)
        | (refine Br.eqF (by assumption) ?_)
        | (refine Br.neT (by assumption) ?_)
        | (refine Br.neF (by assumption) ?_)
        | (refine Br.eqT (by omega) ?_)
        | (refine Br.eqF (by omega) ?_)
        | (refine Br.neT (by omega) ?_)
        | (refine Br.neF (by omega) ?_)
        | (refine Br.eqI (fun h => ?_) (fun h => ?_))
        | (refine Br.neI (fun h => ?_) (fun h => ?_))
        | (refine Br.sT (by assumption) ?_)
        | (refine Br.sF (by assumption) ?_)
        | (refine Br.snT (by assumption) ?_)
        | (refine Br.snF (by assumption) ?_)
        | (refine Br.eqS (fun h => ?_) (fun h => ?_))
        | (refine Br.neS (fun h => ?_) (fun h => ?_))
        | (refine Br.not ?_)
        | (refine Br.anyT (by assumption) ?_)
        | (refine Br.anyF (by assumption) ?_)
        | (refine Br.any (fun h => ?_) (fun h => ?_))
        | (refine Ex1.b64 ?_)
        | (refine Ex1.b64add (by omega) (by omega) ?_)
        | (refine Ex1.b8 ?_)
        | (refine Ex1.i64 (by omega) (by omega) ?_)
        | (refine Ex1.u8 (by omega) (by omega) ?_)
        | (refine Ex1.i32 (by omega) (by omega) ?_)
        | (refine Ex1.u64 (by omega) (by omega) ?_)
        | (refine Need.mk ⟨rfl, rfl⟩ ?_)
        | (refine Need.mk rfl ?_)
        | (refine Need.mk ⟨rfl, rfl, Nat.le_refl _⟩ ?_)
        | (refine Got.by _ (bytesD_enc _) ?_)
        | (refine Need.mk (by omega) ?_)
        | (refine Got.by _ rfl ?_)
        | (refine Need.mk (by first | (simp; omega) | (simp; done) | fail) ?_)
        | (refine Need.mk ⟨rfl, rfl, by first | (simp; omega) | (simp; done) | fail⟩ ?_)
        | (refine Need.mk ⟨rfl, by first | (simp; omega) | (simp; done) | fail⟩ ?_)
        | (refine Need.mk ⟨by first | (simp; omega) | (simp; done) | fail, by first | (simp; omega) | (simp; done) | fail⟩ ?_)
        | fail)
      all_goals conv => whnf
      · rename_i h1 h2
        obtain ⟨m, rfl⟩ : ∃ m, j = m + 1 := ⟨j - 1, by omega⟩
        rw [show ((m + 1 : Nat) : Int) - 1 = (m : Int) by omega, Int.toNat_natCast] at h
        refine hK2 m (by omega) ⟨by omega, by omega, ?_⟩ _ _ (Weak.of ⟨rfl, rfl, by show some (D.int _ _) = some (D.int _ _); congr 2; omega, trivial⟩ rfl)
        rw [← hj.2.2, take_getD (by omega), List.drop_append_of_le_length (by simp; omega), u8_int (y := 32) h, rt_snoc_eq]
      · obtain ⟨m, rfl⟩ : ∃ m, j = m + 1 := ⟨j - 1, by omega⟩
        rw [show ((m + 1 : Nat) : Int) - 1 = (m : Int) by omega, Int.toNat_natCast] at h
        refine hK (m + 1) ⟨by omega, by omega, ?_⟩ _ _ (Weak.of ⟨rfl, rfl, rfl, trivial⟩ rfl)
        rw [← hj.2.2, take_getD (by omega), List.drop_append_of_le_length (by simp; omega), rt_snoc_ne _ (u8_ne (y := 32) h)]
      · refine hK j ⟨by omega, by omega, ?_⟩ _ _ (Weak.of ⟨rfl, rfl, rfl, trivial⟩ rfl)
        have e : (s.take j).drop i = [] := by rw [List.drop_eq_nil_iff]; simp; omega
        rw [← hj.2.2, e]; rfl
  · conv => whnf
    refine iw_loop (σ := Nat) (fun i => i ≤ s.length ∧ lt (s.drop i) = lt s) (fun i => s.length - i) (fun i => [(0, .str s), (3, .int .i64 i), (4, .int .i64 s.length)]) (fun _ => []) 0
      ⟨by omega, rfl⟩ (Weak.of ⟨rfl, rfl, rfl, trivial⟩ rfl) fun i hi K2 hK2 => ?_
    repeat' ((conv => whnf); first
      | (refine sq_keep ?_)
      | (refine Br.yes ?_)
      | (refine Br.no ?_)
      | (refine Br.decT (by assumption) ?_)
      | (refine Br.decF (by assumption) ?_)
      | (refine Br.decF (by omega) ?_)
      | (refine Br.decT (by omega) ?_)
      | (refine Br.dec (fun h => ?_) (fun h => ?_))
      | (refine Br.eqT (by assumption) ?_)
      | (refine Br.eqF (by assumption) ?_)
      | (refine Br.neT (by assumption) ?_)
      | (refine Br.neF (by assumption) ?_)
      | (refine Br.eqT (by omega) ?_)
      | (refine Br.eqF (by omega) ?_)
      | (refine Br.neT (by omega) ?_)
      | (refine Br.neF (by omega) ?_)
      | (refine Br.eqI (fun h => ?_) (fun h => ?_))
      | (refine Br.neI (fun h => ?_) (fun h => ?_))
      | (refine Br.sT (by assumption) ?_)
      | (refine Br.sF (by assumption) ?_)
      | (refine Br.snT (by assumption) ?_)
      | (refine Br.snF (by assumption) ?_)
      | (refine Br.eqS (fun h => ?_) (fun h => ?_))
      | (refine Br.neS (fun h => ?_) (fun h => ?_))
      | (refine Br.not ?_)
      | (refine Br.anyT (by assumption) ?_)
      | (refine Br.anyF (by assumption) ?_)
      | (refine Br.any (fun h => ?_) (fun h => ?_))
      | (refine Ex1.b64 ?_)
      | (refine Ex1.b64add (by omega) (by omega) ?_)
      | (refine Ex1.b8 ?_)
      | (refine Ex1.i64 (by omega) (by omega) ?_)
      | (refine Ex1.u8 (by omega) (by omega) ?_)
      | (refine Ex1.i32 (by omega) (by omega) ?_)
      | (refine Ex1.u64 (by omega) (by omega) ?_)
      | (refine Need.mk ⟨rfl, rfl⟩ ?_)
      | (refine Need.mk rfl ?_)
      | (refine Need.mk ⟨rfl, rfl, Nat.le_refl _⟩ ?_)
      | (refine Got.by _ (bytesD_enc _) ?_)
      | (refine Need.mk (by omega) ?_)
      | (refine Got.by _ rfl ?_)
      | (refine Need.mk (by first | (simp; omega) | (simp; done) | fail) ?_)
      | (refine Need.mk ⟨rfl, rfl, by first | (simp; omega) | (simp; done) | fail⟩ ?_)
      | (refine Need.mk ⟨rfl, by first | (simp; omega) | (simp; done) | fail⟩ ?_)
      | (refine Need.mk ⟨by first | (simp; omega) | (simp; done) | fail, by first | (simp; omega) | (simp; done) | fail⟩ ?_)
      | fail)
    all_goals conv => whnf
    all_goals try simp only [Int.toNat_natCast] at *
    · refine hK2 (i + 1) (by omega) ⟨by omega, ?_⟩ _ _ (Weak.of ⟨rfl, rfl, rfl, trivial⟩ rfl)
      rw [← hi.2, drop_getD (i := i) (by omega), u8_int (y := 32) h, lt_cons_eq]
    · refine hK i ⟨by omega, ?_⟩ _ _ (Weak.of ⟨rfl, rfl, rfl, trivial⟩ rfl)
      rw [← hi.2, drop_getD (i := i) (by omega), lt_cons_ne _ (u8_ne (y := 32) h)]
    · refine hK i ⟨by omega, ?_⟩ _ _ (Weak.of ⟨rfl, rfl, rfl, trivial⟩ rfl)
      have e : s.drop i = [] := by rw [List.drop_eq_nil_iff]; omega
      rw [← hi.2, e]; rfl

theorem ps19 (s : List UInt8) (hs : s.length ≤ 1000000) : PSpec Try.prog 19 [.str s] (.str (trimS s)) := by
  refine PSpec.of_iw fac19 (by simp) ?_
  refine iw_seq1 True [(0, .str s)] [] (fun _ => ?_) fun K hK => hK trivial _ _ (Weak.of ⟨rfl, trivial⟩ rfl)
  refine iw_seq1 True [(0, .str (lt s))] [] (fun _ => ?_) fun K hK => ?_
  · refine iw_seq1 True [(0, .str (trimS s))] [] (fun _ => ?_) fun K hK => ?_
    · repeat' ((conv => whnf); first
  | (refine sq_keep ?_)
  | (refine Br.yes ?_)
  | (refine Br.no ?_)
  | (refine Br.decT (by assumption) ?_)
  | (refine Br.decF (by assumption) ?_)
  | (refine Br.decF (by omega) ?_)
  | (refine Br.decT (by omega) ?_)
  | (refine Br.dec (fun h => ?_) (fun h => ?_))
  | (refine Br.eqT (by assumption) ?_)
  | (refine Br.eqF (by assumption) ?_)
  | (refine Br.neT (by assumption) ?_)
  | (refine Br.neF (by assumption) ?_)
  | (refine Br.eqT (by omega) ?_)
  | (refine Br.eqF (by omega) ?_)
  | (refine Br.neT (by omega) ?_)
  | (refine Br.neF (by omega) ?_)
  | (refine Br.eqI (fun h => ?_) (fun h => ?_))
  | (refine Br.neI (fun h => ?_) (fun h => ?_))
  | (refine Br.sT (by assumption) ?_)
  | (refine Br.sF (by assumption) ?_)
  | (refine Br.snT (by assumption) ?_)
  | (refine Br.snF (by assumption) ?_)
  | (refine Br.eqS (fun h => ?_) (fun h => ?_))
  | (refine Br.neS (fun h => ?_) (fun h => ?_))
  | (refine Br.not ?_)
  | (refine Br.anyT (by assumption) ?_)
  | (refine Br.anyF (by assumption) ?_)
  | (refine Br.any (fun h => ?_) (fun h => ?_))
  | (refine Ex1.b64 ?_)
  | (refine Ex1.b64add (by omega) (by omega) ?_)
  | (refine Ex1.b8 ?_)
  | (refine Ex1.i64 (by omega) (by omega) ?_)
  | (refine Ex1.u8 (by omega) (by omega) ?_)
  | (refine Ex1.i32 (by omega) (by omega) ?_)
  | (refine Ex1.u64 (by omega) (by omega) ?_)
  | (refine Need.mk ⟨rfl, rfl⟩ ?_)
  | (refine Need.mk rfl ?_)
  | (refine Need.mk ⟨rfl, rfl, Nat.le_refl _⟩ ?_)
  | (refine Got.by _ (bytesD_enc _) ?_)
  | (refine Need.mk (by omega) ?_)
  | (refine Got.by _ rfl ?_)
  | (refine Need.mk (by first | (simp; omega) | (simp; done) | fail) ?_)
  | (refine Need.mk ⟨rfl, rfl, by first | (simp; omega) | (simp; done) | fail⟩ ?_)
  | (refine Need.mk ⟨rfl, by first | (simp; omega) | (simp; done) | fail⟩ ?_)
  | (refine Need.mk ⟨by first | (simp; omega) | (simp; done) | fail, by first | (simp; omega) | (simp; done) | fail⟩ ?_)
  | fail)
      all_goals rfl
    · conv => whnf
      refine iw_loop (σ := List UInt8) (fun u => u.length ≤ s.length ∧ rt u = trimS s) (fun u => u.length) (fun u => [(0, .str u)]) (fun _ => []) (lt s)
        ⟨by rw [lt]; exact (List.dropWhile_sublist _).length_le, rfl⟩ (Weak.of ⟨rfl, trivial⟩ rfl) fun u hu K2 hK2 => ?_
      repeat' ((conv => whnf); first
        | (refine sq_keep ?_)
        | (refine Br.yes ?_)
        | (refine Br.no ?_)
        | (refine Br.decT (by assumption) ?_)
        | (refine Br.decF (by assumption) ?_)
        | (refine Br.decF (by omega) ?_)
        | (refine Br.decT (by omega) ?_)
        | (refine Br.dec (fun h => ?_) (fun h => ?_))
        | (refine Br.eqT (by assumption) ?_)
        | (refine Br.eqF (by assumption) ?_)
        | (refine Br.neT (by assumption) ?_)
        | (refine Br.neF (by assumption) ?_)
        | (refine Br.eqT (by omega) ?_)
        | (refine Br.eqF (by omega) ?_)
        | (refine Br.neT (by omega) ?_)
        | (refine Br.neF (by omega) ?_)
        | (refine Br.eqI (fun h => ?_) (fun h => ?_))
        | (refine Br.neI (fun h => ?_) (fun h => ?_))
        | (refine Br.sT (by assumption) ?_)
        | (refine Br.sF (by assumption) ?_)
        | (refine Br.snT (by assumption) ?_)
        | (refine Br.snF (by assumption) ?_)
        | (refine Br.eqS (fun h => ?_) (fun h => ?_))
        | (refine Br.neS (fun h => ?_) (fun h => ?_))
        | (refine Br.not ?_)
        | (refine Br.anyT (by assumption) ?_)
        | (refine Br.anyF (by assumption) ?_)
        | (refine Br.any (fun h => ?_) (fun h => ?_))
        | (refine Ex1.b64 ?_)
        | (refine Ex1.b64add (by omega) (by omega) ?_)
        | (refine Ex1.b8 ?_)
        | (refine Ex1.i64 (by omega) (by omega) ?_)
        | (refine Ex1.u8 (by omega) (by omega) ?_)
        | (refine Ex1.i32 (by omega) (by omega) ?_)
        | (refine Ex1.u64 (by omega) (by omega) ?_)
        | (refine Need.mk ⟨rfl, rfl⟩ ?_)
        | (refine Need.mk rfl ?_)
        | (refine Need.mk ⟨rfl, rfl, Nat.le_refl _⟩ ?_)
        | (refine Got.by _ (bytesD_enc _) ?_)
        | (refine Need.mk (by omega) ?_)
        | (refine Got.by _ rfl ?_)
        | (refine Need.mk (by first | (simp; omega) | (simp; done) | fail) ?_)
        | (refine Need.mk ⟨rfl, rfl, by first | (simp; omega) | (simp; done) | fail⟩ ?_)
        | (refine Need.mk ⟨rfl, by first | (simp; omega) | (simp; done) | fail⟩ ?_)
        | (refine Need.mk ⟨by first | (simp; omega) | (simp; done) | fail, by first | (simp; omega) | (simp; done) | fail⟩ ?_)
        | fail)
      all_goals conv => whnf
      · obtain ⟨v, c, rfl⟩ : ∃ v c, u = v ++ [c] := ⟨u.dropLast, u.getLast (by intro e; subst e; simp at *), (List.dropLast_concat_getLast _).symm⟩
        have e1 : (((v ++ [c]).length : Int) - 1).toNat = v.length := by simp
        rw [e1] at h
        refine hK2 v (by simp) ⟨by have := hu.1; simp at this; omega, ?_⟩ _ _ (Weak.of ⟨?_, trivial⟩ rfl)
        · rw [← hu.2, u8_int (x := c) (y := 32) (by simpa using h), rt_snoc_eq]
        · show some (D.str (((v ++ [c]).drop 0).take ((((v ++ [c]).length : Int) - 1).toNat - 0))) = some (D.str v)
          rw [e1]; simp
      · obtain ⟨v, c, rfl⟩ : ∃ v c, u = v ++ [c] := ⟨u.dropLast, u.getLast (by intro e; subst e; simp at *), (List.dropLast_concat_getLast _).symm⟩
        have e1 : (((v ++ [c]).length : Int) - 1).toNat = v.length := by simp
        rw [e1] at h
        rw [rt_snoc_ne v (c := c) (u8_ne (y := 32) (by simpa using h))] at hu
        exact hK trivial _ _ (Weak.of ⟨by rw [← hu.2]; rfl, trivial⟩ rfl)
      · have e : u = [] := List.length_eq_zero_iff.1 (by omega)
        subst e
        exact hK trivial _ _ (Weak.of ⟨by rw [← hu.2]; rfl, trivial⟩ rfl)
  · conv => whnf
    refine iw_loop (σ := List UInt8) (fun u => u.length ≤ s.length ∧ lt u = lt s) (fun u => u.length) (fun u => [(0, .str u)]) (fun _ => []) s
      ⟨by omega, rfl⟩ (Weak.of ⟨rfl, trivial⟩ rfl) fun u hu K2 hK2 => ?_
    repeat' ((conv => whnf); first
      | (refine sq_keep ?_)
      | (refine Br.yes ?_)
      | (refine Br.no ?_)
      | (refine Br.decT (by assumption) ?_)
      | (refine Br.decF (by assumption) ?_)
      | (refine Br.decF (by omega) ?_)
      | (refine Br.decT (by omega) ?_)
      | (refine Br.dec (fun h => ?_) (fun h => ?_))
      | (refine Br.eqT (by assumption) ?_)
      | (refine Br.eqF (by assumption) ?_)
      | (refine Br.neT (by assumption) ?_)
      | (refine Br.neF (by assumption) ?_)
      | (refine Br.eqT (by omega) ?_)
      | (refine Br.eqF (by omega) ?_)
      | (refine Br.neT (by omega) ?_)
      | (refine Br.neF (by omega) ?_)
      | (refine Br.eqI (fun h => ?_) (fun h => ?_))
      | (refine Br.neI (fun h => ?_) (fun h => ?_))
      | (refine Br.sT (by assumption) ?_)
      | (refine Br.sF (by assumption) ?_)
      | (refine Br.snT (by assumption) ?_)
      | (refine Br.snF (by assumption) ?_)
      | (refine Br.eqS (fun h => ?_) (fun h => ?_))
      | (refine Br.neS (fun h => ?_) (fun h => ?_))
      | (refine Br.not ?_)
      | (refine Br.anyT (by assumption) ?_)
      | (refine Br.anyF (by assumption) ?_)
      | (refine Br.any (fun h => ?_) (fun h => ?_))
      | (refine Ex1.b64 ?_)
      | (refine Ex1.b64add (by omega) (by omega) ?_)
      | (refine Ex1.b8 ?_)
      | (refine Ex1.i64 (by omega) (by omega) ?_)
      | (refine Ex1.u8 (by omega) (by omega) ?_)
      | (refine Ex1.i32 (by omega) (by omega) ?_)
      | (refine Ex1.u64 (by omega) (by omega) ?_)
      | (refine Need.mk ⟨rfl, rfl⟩ ?_)
      | (refine Need.mk rfl ?_)
      | (refine Need.mk ⟨rfl, rfl, Nat.le_refl _⟩ ?_)
      | (refine Got.by _ (bytesD_enc _) ?_)
      | (refine Need.mk (by omega) ?_)
      | (refine Got.by _ rfl ?_)
      | (refine Need.mk (by first | (simp; omega) | (simp; done) | fail) ?_)
      | (refine Need.mk ⟨rfl, rfl, by first | (simp; omega) | (simp; done) | fail⟩ ?_)
      | (refine Need.mk ⟨rfl, by first | (simp; omega) | (simp; done) | fail⟩ ?_)
      | (refine Need.mk ⟨by first | (simp; omega) | (simp; done) | fail, by first | (simp; omega) | (simp; done) | fail⟩ ?_)
      | fail)
    all_goals conv => whnf
    · cases u with
      | nil => simp at *
      | cons c u =>
        refine hK2 u (by simp) ⟨by have := hu.1; simp at this; omega, ?_⟩ _ _ (Weak.of ⟨?_, trivial⟩ rfl)
        · rw [← hu.2, u8_int (x := c) (y := 32) h, lt_cons_eq]
        · show some (D.str (((c :: u).drop 1).take ((c :: u).length - 1))) = some (D.str u)
          simp
    · cases u with
      | nil => simp at *
      | cons c u =>
        refine hK trivial _ _ (Weak.of ⟨?_, trivial⟩ rfl)
        rw [← hu.2, lt_cons_ne _ (u8_ne (x := c) (y := 32) h)]; rfl
    · have e : u = [] := List.length_eq_zero_iff.1 (by omega)
      subst e
      exact hK trivial _ _ (Weak.of ⟨by rw [← hu.2]; rfl, trivial⟩ rfl)

end Go.Proofs.Ytamckclacocifaa
