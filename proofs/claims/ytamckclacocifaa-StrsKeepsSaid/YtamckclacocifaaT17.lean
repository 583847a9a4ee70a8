import Derived.Test.YtamckclacocifaaT16
namespace Go.Proofs.Ytamckclacocifaa
open Go.Ab

theorem rep_same {t : List UInt8} (ht : t ≠ []) (s : List UInt8) : rep t t s = s := by
  induction hn : s.length using Nat.strongRecOn generalizing s with
  | _ n ih =>
    have h1 := List.length_pos_iff.2 ht
    cases hs : s with
    | nil => exact rep_nil _ _
    | cons c u =>
      rw [← hs]
      have hl : s.length = u.length + 1 := by rw [hs]; rfl
      by_cases h : s.take t.length = t
      · rw [rep_hit ht h, ih (s.drop t.length).length (by rw [List.length_drop]; omega) _ rfl]
        have := List.take_append_drop t.length s
        rw [h] at this
        exact this
      · rw [rep_miss ht (by rw [hs]; simp) h, ih s.tail.length (by rw [List.length_tail]; omega) _ rfl, hs]; rfl

theorem keep_len {t : List UInt8} (ht : t ≠ []) (s : List UInt8) : ∃ m, (rep t [] s).length + m * t.length = s.length := by
  induction hn : s.length using Nat.strongRecOn generalizing s with
  | _ n ih =>
    have h1 := List.length_pos_iff.2 ht
    cases hs : s with
    | nil => subst hs; exact ⟨0, by rw [rep_nil]; simp at *; omega⟩
    | cons c u =>
      rw [← hs]
      have hl : s.length = u.length + 1 := by rw [hs]; rfl
      by_cases h : s.take t.length = t
      · have h2 : t.length ≤ s.length := by
          have := congrArg List.length h
          rw [List.length_take] at this; omega
        obtain ⟨m, hm⟩ := ih (s.drop t.length).length (by rw [List.length_drop]; omega) _ rfl
        rw [List.length_drop] at hm
        refine ⟨m + 1, ?_⟩
        rw [rep_hit ht h, List.nil_append, Nat.succ_mul]
        omega
      · obtain ⟨m, hm⟩ := ih s.tail.length (by rw [List.length_tail]; omega) _ rfl
        rw [List.length_tail] at hm
        refine ⟨m, ?_⟩
        rw [rep_miss ht (by rw [hs]; simp) h, List.length_cons]
        omega

theorem keep_find {t : List UInt8} (ht : t ≠ []) (s : List UInt8) : (decide (findS s t ≥ 0) == !(rep t [] s == s)) = true := by
  rcases findS_spec s t with ⟨f1, f2⟩ | ⟨k, f1, f2, f3, f4⟩
  · have e : rep t [] s = s := by
      rw [rep_skip ht s s.length (Nat.le_refl _) fun j _ hh => f2 j ⟨hit_le ht hh, hh⟩]; simp [rep_nil]
    rw [f1, e]
    have h0 : (s == s) = true := by simp
    rw [h0]; rfl
  · have h1 := List.length_pos_iff.2 ht
    have e : rep t [] s ≠ s := by
      intro e
      have e2 := rep_skip (r := []) ht s k (by omega) f4
      rw [rep_hit ht f3, List.nil_append, List.drop_drop] at e2
      obtain ⟨m, hm⟩ := keep_len ht (s.drop (k + t.length))
      have := congrArg List.length e2
      rw [e, List.length_append, List.length_take] at this
      rw [List.length_drop] at hm
      omega
    have h0 : (rep t [] s == s) = false := by simpa using e
    rw [f1, h0, decide_eq_true (show ((k : Nat) : Int) ≥ 0 by omega)]; rfl

theorem ps8 (s t : List UInt8) (htl : t.length ≤ 9223372036854775807) : PSpec Try.prog 8 [.str s, .str t] (.bool true) := by
  refine PSpec.of_iw fac8 (by simp) ?_
  refine iw_seq1 True [(0, .str s), (1, .str t)] [] (fun _ => ?_) fun K hK => hK trivial _ _ (Weak.of ⟨rfl, rfl, trivial⟩ rfl)
  by_cases hg : s.length ≤ 60 ∧ t ≠ []
  · · obtain ⟨m, hm⟩ := keep_len hg.2 s
      have ht1 := List.length_pos_iff.2 hg.2
      have e1 : replR s t t = s := by rw [replR, rep_same hg.2, if_neg (by rw [not_or]; exact ⟨hg.2, by omega⟩)]
      have e2 : replC s t t = 0 := by rw [replC, rep_same hg.2, if_neg hg.2, if_neg (by omega)]
      have e3 : replR s t [] = rep t [] s := by rw [replR, if_neg (by rw [not_or]; exact ⟨hg.2, by omega⟩)]
      have e4 : replC s t [] = 0 := by rw [replC, if_neg hg.2, if_neg (by omega)]
      have p1 := ps26 s t t (by omega) htl (fun h => h)
      have p2 := ps26 s t [] (by omega) htl (fun _ => by simp)
      rw [e1, e2] at p1
      rw [e3, e4] at p2
      have hq := keep_find hg.2 s
      have hmod : Int.tmod ((s.length : Int) - (rep t [] s).length) t.length = 0 := by
        have e : (s.length : Int) - (rep t [] s).length = (m : Int) * t.length := by
          have : ((rep t [] s).length : Int) + (m : Int) * t.length = s.length := by exact_mod_cast hm
          omega
        rw [e]; exact Int.mul_tmod_left _ _
      repeat' ((conv => whnf); first
        | (refine Cl.p ps12 (by simp) (by simp) ?_)
        | (refine Cl.p p1 (by simp) (by simp) ?_)
        | (refine Cl.p p2 (by simp) (by simp) ?_)
        | (refine Cl.p (ps28 _ _ (by omega) htl) (by simp) (by simp) ?_)
        | (refine Need.mk (by omega) (Ex1.by 0 hmod.symm ?_))
        | (refine Br.sF hg.2 ?_)
        | (refine Br.snF rfl ?_)
        | (refine Br.neF rfl ?_)
        | (refine Br.anyT hq ?_)
        | (refine sq_keep ?_)
        | (refine Br.yes ?_)
        | (refine Br.no ?_)
        | (refine Br.decT (by assumption) ?_)
        | (refine Br.decF (by assumption) ?_)
        | (refine Br.decF (by omega) ?_)
        | (refine Br.decT (by omega) ?_)
        | (refine Br.dec (fun h => ?_) (fun h => ?_))
        | (refine Br.eqT (by assumption) ?_)
        | (refine Br.eqF (by assumption) ?_)
        | (refine Br.neT (by assumption) ?_)
        | (refine Br.neF (by assumption) ?_)
        | (refine Br.eqT (by omega) ?_)
        | (refine Br.eqF (by omega) ?_)
        | (refine Br.neT (by omega) ?_)
        | (refine Br.neF (by omega) ?_)
        | (refine Br.eqI (fun h => ?_) (fun h => ?_))
        | (refine Br.neI (fun h => ?_) (fun h => ?_))
        | (refine Br.sT (by assumption) ?_)
        | (refine Br.sF (by assumption) ?_)
        | (refine Br.snT (by assumption) ?_)
        | (refine Br.snF (by assumption) ?_)
        | (refine Br.eqS (fun h => ?_) (fun h => ?_))
        | (refine Br.neS (fun h => ?_) (fun h => ?_))
        | (refine Br.not ?_)
        | (refine Br.anyT (by assumption) ?_)
        | (refine Br.anyF (by assumption) ?_)
        | (refine Br.any (fun h => ?_) (fun h => ?_))
        | (refine Ex1.b64 ?_)
        | (refine Ex1.b64add (by omega) (by omega) ?_)
        | (refine Ex1.b8 ?_)
        | (refine Ex1.i64 (by omega) (by omega) ?_)
        | (refine Ex1.u8 (by omega) (by omega) ?_)
        | (refine Ex1.i32 (by omega) (by omega) ?_)
        | (refine Ex1.u64 (by omega) (by omega) ?_)
        | (refine Need.mk ⟨rfl, rfl⟩ ?_)
        | (refine Need.mk rfl ?_)
        | (refine Need.mk ⟨rfl, rfl, Nat.le_refl _⟩ ?_)
        | (refine Got.by _ (bytesD_enc _) ?_)
        | (refine Need.mk (by omega) ?_)
        | (refine Got.by _ rfl ?_)
        | (refine Need.mk (by first | (simp; omega) | (simp; done) | fail) ?_)
        | (refine Need.mk ⟨rfl, rfl, by first | (simp; omega) | (simp; done) | fail⟩ ?_)
        | (refine Need.mk ⟨rfl, by first | (simp; omega) | (simp; done) | fail⟩ ?_)
        | (refine Need.mk ⟨by first | (simp; omega) | (simp; done) | fail, by first | (simp; omega) | (simp; done) | fail⟩ ?_)
        | fail)
      all_goals rfl
  · repeat' ((conv => whnf); first
  | (refine Cl.p ps12 (by simp) (by simp) ?_)
  | (refine sq_keep ?_)
  | (refine Br.yes ?_)
  | (refine Br.no ?_)
  | (refine Br.decT (by assumption) ?_)
  | (refine Br.decF (by assumption) ?_)
  | (refine Br.decF (by omega) ?_)
  | (refine Br.decT (by omega) ?_)
  | (refine Br.dec (fun h => ?_) (fun h => ?_))
  | (refine Br.eqT (by assumption) ?_)
  | (refine Br.eqF (by assumption) ?_)
  | (refine Br.neT (by assumption) ?_)
  | (refine Br.neF (by assumption) ?_)
  | (refine Br.eqT (by omega) ?_)
  | (refine Br.eqF (by omega) ?_)
  | (refine Br.neT (by omega) ?_)
  | (refine Br.neF (by omega) ?_)
  | (refine Br.eqI (fun h => ?_) (fun h => ?_))
  | (refine Br.neI (fun h => ?_) (fun h => ?_))
  | (refine Br.sT (by assumption) ?_)
  | (refine Br.sF (by assumption) ?_)
  | (refine Br.snT (by assumption) ?_)
  | (refine Br.snF (by assumption) ?_)
  | (refine Br.eqS (fun h => ?_) (fun h => ?_))
  | (refine Br.neS (fun h => ?_) (fun h => ?_))
  | (refine Br.not ?_)
  | (refine Br.anyT (by assumption) ?_)
  | (refine Br.anyF (by assumption) ?_)
  | (refine Br.any (fun h => ?_) (fun h => ?_))
  | (refine Ex1.b64 ?_)
  | (refine Ex1.b64add (by omega) (by omega) ?_)
  | (refine Ex1.b8 ?_)
  | (refine Ex1.i64 (by omega) (by omega) ?_)
  | (refine Ex1.u8 (by omega) (by omega) ?_)
  | (refine Ex1.i32 (by omega) (by omega) ?_)
  | (refine Ex1.u64 (by omega) (by omega) ?_)
  | (refine Need.mk ⟨rfl, rfl⟩ ?_)
  | (refine Need.mk rfl ?_)
  | (refine Need.mk ⟨rfl, rfl, Nat.le_refl _⟩ ?_)
  | (refine Got.by _ (bytesD_enc _) ?_)
  | (refine Need.mk (by omega) ?_)
  | (refine Got.by _ rfl ?_)
  | (refine Need.mk (by first | (simp; omega) | (simp; done) | fail) ?_)
  | (refine Need.mk ⟨rfl, rfl, by first | (simp; omega) | (simp; done) | fail⟩ ?_)
  | (refine Need.mk ⟨rfl, by first | (simp; omega) | (simp; done) | fail⟩ ?_)
  | (refine Need.mk ⟨by first | (simp; omega) | (simp; done) | fail, by first | (simp; omega) | (simp; done) | fail⟩ ?_)
  | fail)
    all_goals first
      | (exfalso; exact hg ⟨by omega, h⟩)
      | (conv => whnf)

end Go.Proofs.Ytamckclacocifaa
