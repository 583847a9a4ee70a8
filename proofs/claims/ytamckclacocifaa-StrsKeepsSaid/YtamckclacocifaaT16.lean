import Derived.Test.YtamckclacocifaaT15
namespace Go.Proofs.Ytamckclacocifaa
open Go.Ab

def hit (s t : List UInt8) (k : Nat) : Prop := (s.drop k).take t.length = t

theorem findFrom_spec (s t : List UInt8) : ∀ (n i : Nat), s.length + 1 ≤ n + i →
    (findFrom s t n i = -1 ∧ ∀ j, i ≤ j → ¬ (j + t.length ≤ s.length ∧ hit s t j)) ∨
    (∃ k : Nat, findFrom s t n i = k ∧ k + t.length ≤ s.length ∧ hit s t k ∧ ∀ j, i ≤ j → j < k → ¬ hit s t j)
  | 0, i, h => .inl ⟨rfl, fun j h1 h2 => by omega⟩
  | n + 1, i, h => by
    by_cases h1 : i + t.length ≤ s.length
    · by_cases h2 : hit s t i
      · exact .inr ⟨i, by unfold hit at h2; rw [findFrom, if_pos h1, if_pos h2], h1, h2, fun j a b => by omega⟩
      · have e : findFrom s t (n + 1) i = findFrom s t n (i + 1) := by unfold hit at h2; rw [findFrom, if_pos h1, if_neg h2]
        rw [e]
        rcases findFrom_spec s t n (i + 1) (by omega) with ⟨a, b⟩ | ⟨k, a, b, c, d⟩
        · refine .inl ⟨a, fun j hj => ?_⟩
          by_cases hij : i = j
          · subst hij; exact fun x => h2 x.2
          · exact b j (by omega)
        · refine .inr ⟨k, a, b, c, fun j hj hk => ?_⟩
          by_cases hij : i = j
          · subst hij; exact h2
          · exact d j (by omega) hk
    · exact .inl ⟨by rw [findFrom, if_neg h1], fun j hj h2 => by omega⟩

theorem findS_spec (s t : List UInt8) :
    (findS s t = -1 ∧ ∀ j, ¬ (j + t.length ≤ s.length ∧ hit s t j)) ∨ (∃ k : Nat, findS s t = k ∧ k + t.length ≤ s.length ∧ hit s t k ∧ ∀ j, j < k → ¬ hit s t j) := by
  rcases findFrom_spec s t (s.length + 1) 0 (by omega) with ⟨a, b⟩ | ⟨k, a, b, c, d⟩
  · exact .inl ⟨a, fun j => b j (by omega)⟩
  · exact .inr ⟨k, a, b, c, fun j => d j (by omega)⟩

theorem hit_le {s t : List UInt8} {k : Nat} (ht : t ≠ []) (h : hit s t k) : k + t.length ≤ s.length := by
  have e : ((s.drop k).take t.length).length = t.length := by rw [h]
  have := List.length_pos_iff.2 ht
  simp at e; omega

def rep (t r s : List UInt8) : List UInt8 :=
  if _h : t = [] ∨ s = [] then s else if s.take t.length = t then r ++ rep t r (s.drop t.length) else s.headD 0 :: rep t r s.tail
termination_by s.length
decreasing_by
  · rw [not_or] at _h
    have h1 := List.length_pos_iff.2 _h.1
    have h2 := List.length_pos_iff.2 _h.2
    rw [List.length_drop]; omega
  · rw [not_or] at _h
    have h2 := List.length_pos_iff.2 _h.2
    rw [List.length_tail]; omega

theorem rep_nil (t r : List UInt8) : rep t r [] = [] := by rw [rep]; simp
theorem rep_hit {t r s : List UInt8} (ht : t ≠ []) (h : s.take t.length = t) : rep t r s = r ++ rep t r (s.drop t.length) := by
  have hs : s ≠ [] := by
    intro e; subst e; simp at h; exact ht h
  rw [rep, dif_neg (by rw [not_or]; exact ⟨ht, hs⟩), if_pos h]
theorem rep_miss {t r s : List UInt8} (ht : t ≠ []) (hs : s ≠ []) (h : s.take t.length ≠ t) : rep t r s = s.headD 0 :: rep t r s.tail := by
  rw [rep, dif_neg (by rw [not_or]; exact ⟨ht, hs⟩), if_neg h]

theorem rep_skip {t r : List UInt8} (ht : t ≠ []) (s : List UInt8) : ∀ k, k ≤ s.length → (∀ j, j < k → ¬ hit s t j) → rep t r s = s.take k ++ rep t r (s.drop k)
  | 0, _, _ => by simp
  | k + 1, hk, h => by
    rw [rep_skip ht s k (by omega) fun j hj => h j (by omega)]
    have hd := drop_getD (s := s) (i := k) (by omega)
    have hm : (s.drop k).take t.length ≠ t := h k (by omega)
    rw [rep_miss ht (by rw [hd]; simp) hm, take_getD (by omega), hd]
    simp

def replR (s t r : List UInt8) : List UInt8 := if t = [] ∨ 64 < (rep t r s).length then [] else rep t r s
def replC (s t r : List UInt8) : Int := if t = [] then 4 else if 64 < (rep t r s).length then 2 else 0

set_option maxHeartbeats 4000000 in
theorem ps26 (s t r : List UInt8) (hs : s.length ≤ 1000000) (ht : t.length ≤ 9223372036854775807) (hr : t.length ≤ 1000000 → r.length ≤ 1000000) : PSpec Try.prog 26 [.str s, .str t, .str r] (.tup [.str (replR s t r), .int .i64 (replC s t r)]) := by
  refine PSpec.of_iw fac26 (by simp) ?_
  refine iw_seq1 True [(0, .str s), (1, .str t), (2, .str r)] [] (fun _ => ?_) fun K hK => hK trivial _ _ (Weak.of ⟨rfl, rfl, rfl, trivial⟩ rfl)
  refine iw_seq1 (t ≠ []) [(0, .str s), (1, .str t), (2, .str r)] [] (fun ht0 => ?_) fun K hK => ?_
  · have htl := List.length_pos_iff.2 ht0
    refine iw_seq1 True [(8, .ref 0 0), (0, .str s), (1, .str t), (2, .str r)] [.slice 1 5 []] (fun _ => ?_) fun K hK => hK trivial _ _ (Weak.trans (Weak.of (l := [(8, .nils), (0, .str s), (1, .str t), (2, .str r)]) ⟨rfl, rfl, rfl, rfl, trivial⟩ rfl) (Weak.newNil 1 5 8 _ _))
    refine iw_seq (σ := List UInt8 × List UInt8) (fun p => p.2 ++ p.1 = rep t r s ∧ p.1.length ≤ 1000000 ∧ p.2.length ≤ 64) (fun p => [(0, .str p.1), (8, .ref 0 p.2.length)]) (fun p => [.slice 1 5 (p.2.map encB)]) ?_ fun K hK => ?_
    · rintro ⟨u, out⟩ ⟨h1, h2, h3⟩
      change out ++ u = _ at h1
      simp only at h2 h3
      refine iw_seq1 True [(8, .ref 0 (rep t r s).length)] [.slice 1 5 ((rep t r s).map encB)] (fun _ => ?_) fun K hK => ?_
      · have hl : (rep t r s).length ≤ 2000000 := by rw [← h1]; simp; omega
        repeat' ((conv => whnf); first
          | (refine sq_keep ?_)
          | (refine Br.yes ?_)
          | (refine Br.no ?_)
          | (refine Br.decT (by assumption) ?_)
          | (refine Br.decF (by assumption) ?_)
          | (refine Br.decF (by omega) ?_)
          | (refine Br.decT (by omega) ?_)
          | (refine Br.dec (fun h => ?_) (fun h => ?_))
          | (refine Br.eqT (by assumption) ?_)
          | (refine Br.eqF (by assumption) ?_)
          | (refine Br.neT (by assumption) ?_)
          | (refine Br.neF (by assumption) ?_)
          | (refine Br.eqT (by omega) ?_)
          | (refine Br.eqF (by omega) ?_)
          | (refine Br.neT (by omega) ?_)
          | (refine Br.neF (by omega) ?_)
          | (refine Br.eqI (fun h => ?_) (fun h => ?_))
          | (refine Br.neI (fun h => ?_) (fun h => ?_))
          | (refine Br.sT (by assumption) ?_)
          | (refine Br.sF (by assumption) ?_)
          | (refine Br.snT (by assumption) ?_)
          | (refine Br.snF (by assumption) ?_)
          | (refine Br.eqS (fun h => ?_) (fun h => ?_))
          | (refine Br.neS (fun h => ?_) (fun h => ?_))
          | (refine Br.not ?_)
          | (refine Br.anyT (by assumption) ?_)
          | (refine Br.anyF (by assumption) ?_)
          | (refine Br.any (fun h => ?_) (fun h => ?_))
          | (refine Ex1.b64 ?_)
          | (refine Ex1.b64add (by omega) (by omega) ?_)
          | (refine Ex1.b8 ?_)
          | (refine Ex1.i64 (by omega) (by omega) ?_)
          | (refine Ex1.u8 (by omega) (by omega) ?_)
          | (refine Ex1.i32 (by omega) (by omega) ?_)
          | (refine Ex1.u64 (by omega) (by omega) ?_)
          | (refine Need.mk ⟨rfl, rfl⟩ ?_)
          | (refine Need.mk rfl ?_)
          | (refine Need.mk ⟨rfl, rfl, Nat.le_refl _⟩ ?_)
          | (refine Got.by _ (bytesD_enc _) ?_)
          | (refine Need.mk (by omega) ?_)
          | (refine Got.by _ rfl ?_)
          | (refine Need.mk (by first | (simp; omega) | (simp; done) | fail) ?_)
          | (refine Need.mk ⟨rfl, rfl, by first | (simp; omega) | (simp; done) | fail⟩ ?_)
          | (refine Need.mk ⟨rfl, by first | (simp; omega) | (simp; done) | fail⟩ ?_)
          | (refine Need.mk ⟨by first | (simp; omega) | (simp; done) | fail, by first | (simp; omega) | (simp; done) | fail⟩ ?_)
          | fail)
        all_goals conv => whnf
        · have hv : 64 < (rep t r s).length := by omega
          rw [replR, replC, if_pos (.inr hv), if_neg ht0, if_pos hv]
        · have hv : ¬ 64 < (rep t r s).length := by omega
          rw [replR, replC, if_neg (by rw [not_or]; exact ⟨ht0, hv⟩), if_neg ht0, if_neg hv]
      · repeat' ((conv => whnf); first
  | (refine Need.mk ⟨szAll_enc _, goodAll_enc _⟩ ?_)
  | (refine Need.mk ⟨rfl, rfl, List.length_map _⟩ ?_)
  | (refine Need.mk ⟨by rw [List.length_map]; omega, by rw [List.length_map]; omega⟩ ?_)
  | (refine sq_keep ?_)
  | (refine Br.yes ?_)
  | (refine Br.no ?_)
  | (refine Br.decT (by assumption) ?_)
  | (refine Br.decF (by assumption) ?_)
  | (refine Br.decF (by omega) ?_)
  | (refine Br.decT (by omega) ?_)
  | (refine Br.dec (fun h => ?_) (fun h => ?_))
  | (refine Br.eqT (by assumption) ?_)
  | (refine Br.eqF (by assumption) ?_)
  | (refine Br.neT (by assumption) ?_)
  | (refine Br.neF (by assumption) ?_)
  | (refine Br.eqT (by omega) ?_)
  | (refine Br.eqF (by omega) ?_)
  | (refine Br.neT (by omega) ?_)
  | (refine Br.neF (by omega) ?_)
  | (refine Br.eqI (fun h => ?_) (fun h => ?_))
  | (refine Br.neI (fun h => ?_) (fun h => ?_))
  | (refine Br.sT (by assumption) ?_)
  | (refine Br.sF (by assumption) ?_)
  | (refine Br.snT (by assumption) ?_)
  | (refine Br.snF (by assumption) ?_)
  | (refine Br.eqS (fun h => ?_) (fun h => ?_))
  | (refine Br.neS (fun h => ?_) (fun h => ?_))
  | (refine Br.not ?_)
  | (refine Br.anyT (by assumption) ?_)
  | (refine Br.anyF (by assumption) ?_)
  | (refine Br.any (fun h => ?_) (fun h => ?_))
  | (refine Ex1.b64 ?_)
  | (refine Ex1.b64add (by omega) (by omega) ?_)
  | (refine Ex1.b8 ?_)
  | (refine Ex1.i64 (by omega) (by omega) ?_)
  | (refine Ex1.u8 (by omega) (by omega) ?_)
  | (refine Ex1.i32 (by omega) (by omega) ?_)
  | (refine Ex1.u64 (by omega) (by omega) ?_)
  | (refine Need.mk ⟨rfl, rfl⟩ ?_)
  | (refine Need.mk rfl ?_)
  | (refine Need.mk ⟨rfl, rfl, Nat.le_refl _⟩ ?_)
  | (refine Got.by _ (bytesD_enc _) ?_)
  | (refine Need.mk (by omega) ?_)
  | (refine Got.by _ rfl ?_)
  | (refine Need.mk (by first | (simp; omega) | (simp; done) | fail) ?_)
  | (refine Need.mk ⟨rfl, rfl, by first | (simp; omega) | (simp; done) | fail⟩ ?_)
  | (refine Need.mk ⟨rfl, by first | (simp; omega) | (simp; done) | fail⟩ ?_)
  | (refine Need.mk ⟨by first | (simp; omega) | (simp; done) | fail, by first | (simp; omega) | (simp; done) | fail⟩ ?_)
  | fail)
        all_goals conv => whnf
        refine hK trivial _ _ (Weak.of ⟨?_, trivial⟩ ?_)
        · show some (D.ref 0 (out.length + (u.map encB).length)) = _
          rw [← h1]; simp
        · show [Blk.slice 1 5 (out.map encB ++ u.map encB)] = _
          rw [← h1]; simp
    · conv => whnf
      refine iw_loop (σ := List UInt8 × List UInt8) (fun p => p.2 ++ rep t r p.1 = rep t r s ∧ p.1.length ≤ 1000000 ∧ p.2.length ≤ 64) (fun p => p.1.length) (fun p => [(0, .str p.1), (1, .str t), (2, .str r), (8, .ref 0 p.2.length)]) (fun p => [.slice 1 5 (p.2.map encB)]) (s, [])
        ⟨rfl, hs, by simp⟩ (Weak.of ⟨rfl, rfl, rfl, rfl, trivial⟩ rfl) ?_
      rintro ⟨u, out⟩ ⟨h1, h2, h3⟩ K2 hK2
      change out ++ rep t r u = _ at h1
      simp only at h2 h3
      change iw Try.prog 0 _ _ (tm [(0, .str u), (1, .str t), (2, .str r), (8, .ref 0 out.length)]) [.slice 1 5 (out.map encB)]
      rcases findS_spec u t with ⟨f1, f2⟩ | ⟨k, f1, f2, f3, f4⟩
      · have e : rep t r u = u := by
          rw [rep_skip ht0 u u.length (Nat.le_refl _) fun j _ hh => f2 j ⟨hit_le ht0 hh, hh⟩]; simp [rep_nil]
        rw [e] at h1
        repeat' ((conv => whnf); first
          | (refine Cl.p (ps28 u t h2 ht) (by simp) (by simp) ?_)
          | (refine sq_keep ?_)
          | (refine Br.yes ?_)
          | (refine Br.no ?_)
          | (refine Br.decT (by assumption) ?_)
          | (refine Br.decF (by assumption) ?_)
          | (refine Br.decF (by omega) ?_)
          | (refine Br.decT (by omega) ?_)
          | (refine Br.dec (fun h => ?_) (fun h => ?_))
          | (refine Br.eqT (by assumption) ?_)
          | (refine Br.eqF (by assumption) ?_)
          | (refine Br.neT (by assumption) ?_)
          | (refine Br.neF (by assumption) ?_)
          | (refine Br.eqT (by omega) ?_)
          | (refine Br.eqF (by omega) ?_)
          | (refine Br.neT (by omega) ?_)
          | (refine Br.neF (by omega) ?_)
          | (refine Br.eqI (fun h => ?_) (fun h => ?_))
          | (refine Br.neI (fun h => ?_) (fun h => ?_))
          | (refine Br.sT (by assumption) ?_)
          | (refine Br.sF (by assumption) ?_)
          | (refine Br.snT (by assumption) ?_)
          | (refine Br.snF (by assumption) ?_)
          | (refine Br.eqS (fun h => ?_) (fun h => ?_))
          | (refine Br.neS (fun h => ?_) (fun h => ?_))
          | (refine Br.not ?_)
          | (refine Br.anyT (by assumption) ?_)
          | (refine Br.anyF (by assumption) ?_)
          | (refine Br.any (fun h => ?_) (fun h => ?_))
          | (refine Ex1.b64 ?_)
          | (refine Ex1.b64add (by omega) (by omega) ?_)
          | (refine Ex1.b8 ?_)
          | (refine Ex1.i64 (by omega) (by omega) ?_)
          | (refine Ex1.u8 (by omega) (by omega) ?_)
          | (refine Ex1.i32 (by omega) (by omega) ?_)
          | (refine Ex1.u64 (by omega) (by omega) ?_)
          | (refine Need.mk ⟨rfl, rfl⟩ ?_)
          | (refine Need.mk rfl ?_)
          | (refine Need.mk ⟨rfl, rfl, Nat.le_refl _⟩ ?_)
          | (refine Got.by _ (bytesD_enc _) ?_)
          | (refine Need.mk (by omega) ?_)
          | (refine Got.by _ rfl ?_)
          | (refine Need.mk (by first | (simp; omega) | (simp; done) | fail) ?_)
          | (refine Need.mk ⟨rfl, rfl, by first | (simp; omega) | (simp; done) | fail⟩ ?_)
          | (refine Need.mk ⟨rfl, by first | (simp; omega) | (simp; done) | fail⟩ ?_)
          | (refine Need.mk ⟨by first | (simp; omega) | (simp; done) | fail, by first | (simp; omega) | (simp; done) | fail⟩ ?_)
          | fail)
        all_goals conv => whnf
        exact hK (u, out) ⟨h1, h2, h3⟩ _ _ (Weak.of ⟨rfl, rfl, trivial⟩ rfl)
      · have e : rep t r u = u.take k ++ (r ++ rep t r (u.drop (k + t.length))) := by
          rw [rep_skip ht0 u k (by omega) f4, rep_hit ht0 f3, List.drop_drop]
        rw [e] at h1
        have hout : ((out.map encB) ++ (u.take k).map encB).length = out.length + k := by simp; omega
        have hp := ps28 u t h2 ht
        rw [f1] at hp
        repeat' ((conv => whnf); first
          | (refine Cl.p hp (by simp) (by simp) ?_)
          | (refine Need.mk ⟨szAll_enc _, goodAll_enc _⟩ ?_)
          | (refine Need.mk ⟨rfl, rfl, List.length_map _⟩ ?_)
          | (refine Need.mk ⟨by simp; omega, by simp; omega⟩ ?_)
          | (refine Need.mk ⟨rfl, rfl, by simp⟩ ?_)
          | (refine sq_keep ?_)
          | (refine Br.yes ?_)
          | (refine Br.no ?_)
          | (refine Br.decT (by assumption) ?_)
          | (refine Br.decF (by assumption) ?_)
          | (refine Br.decF (by omega) ?_)
          | (refine Br.decT (by omega) ?_)
          | (refine Br.dec (fun h => ?_) (fun h => ?_))
          | (refine Br.eqT (by assumption) ?_)
          | (refine Br.eqF (by assumption) ?_)
          | (refine Br.neT (by assumption) ?_)
          | (refine Br.neF (by assumption) ?_)
          | (refine Br.eqT (by omega) ?_)
          | (refine Br.eqF (by omega) ?_)
          | (refine Br.neT (by omega) ?_)
          | (refine Br.neF (by omega) ?_)
          | (refine Br.eqI (fun h => ?_) (fun h => ?_))
          | (refine Br.neI (fun h => ?_) (fun h => ?_))
          | (refine Br.sT (by assumption) ?_)
          | (refine Br.sF (by assumption) ?_)
          | (refine Br.snT (by assumption) ?_)
          | (refine Br.snF (by assumption) ?_)
          | (refine Br.eqS (fun h => ?_) (fun h => ?_))
          | (refine Br.neS (fun h => ?_) (fun h => ?_))
          | (refine Br.not ?_)
          | (refine Br.anyT (by assumption) ?_)
          | (refine Br.anyF (by assumption) ?_)
          | (refine Br.any (fun h => ?_) (fun h => ?_))
          | (refine Ex1.b64 ?_)
          | (refine Ex1.b64add (by omega) (by omega) ?_)
          | (refine Ex1.b8 ?_)
          | (refine Ex1.i64 (by omega) (by omega) ?_)
          | (refine Ex1.u8 (by omega) (by omega) ?_)
          | (refine Ex1.i32 (by omega) (by omega) ?_)
          | (refine Ex1.u64 (by omega) (by omega) ?_)
          | (refine Need.mk ⟨rfl, rfl⟩ ?_)
          | (refine Need.mk rfl ?_)
          | (refine Need.mk ⟨rfl, rfl, Nat.le_refl _⟩ ?_)
          | (refine Got.by _ (bytesD_enc _) ?_)
          | (refine Need.mk (by omega) ?_)
          | (refine Got.by _ rfl ?_)
          | (refine Need.mk (by first | (simp; omega) | (simp; done) | fail) ?_)
          | (refine Need.mk ⟨rfl, rfl, by first | (simp; omega) | (simp; done) | fail⟩ ?_)
          | (refine Need.mk ⟨rfl, by first | (simp; omega) | (simp; done) | fail⟩ ?_)
          | (refine Need.mk ⟨by first | (simp; omega) | (simp; done) | fail, by first | (simp; omega) | (simp; done) | fail⟩ ?_)
          | fail)
        all_goals conv => whnf
        · have hl := congrArg List.length h1
          simp only [List.length_append, List.length_map, List.length_take, List.length_drop, Int.toNat_natCast] at hl h
          have hv : 64 < (rep t r s).length := by omega
          rw [replR, replC, if_pos (.inr hv), if_neg ht0, if_pos hv]
        · simp only [List.length_map, List.length_take, List.length_drop, Int.toNat_natCast] at h
          have ek : ((k : Int) + (t.length : Int)).toNat = k + t.length := by omega
          have etk : (u.drop 0).take (k - 0) = u.take k := by simp
          refine hK2 (u.drop (k + t.length), out ++ u.take k ++ r) (by show (u.drop (k + t.length)).length < u.length; rw [List.length_drop]; omega) ⟨?_, ?_, ?_⟩ _ _ (Weak.of ⟨?_, rfl, rfl, ?_, trivial⟩ ?_)
          · show (out ++ u.take k ++ r) ++ rep t r (u.drop (k + t.length)) = _
            rw [← h1]; simp
          · show (u.drop (k + t.length)).length ≤ 1000000
            rw [List.length_drop]; omega
          · show (out ++ u.take k ++ r).length ≤ 64
            rw [List.length_append, List.length_append, List.length_take]; omega
          · show some (D.str ((u.drop ((k : Int) + (t.length : Int)).toNat).take (u.length - ((k : Int) + (t.length : Int)).toNat))) = some (D.str (u.drop (k + t.length)))
            rw [ek, List.take_of_length_le (by rw [List.length_drop]; omega)]
          · show some (D.ref 0 (out.length + (((u.drop 0).take (k - 0)).map encB).length + (r.map encB).length)) = some (D.ref 0 (out ++ u.take k ++ r).length)
            rw [etk]; simp [Nat.add_assoc]
          · show [Blk.slice 1 5 ((out.map encB ++ ((u.drop 0).take (k - 0)).map encB) ++ r.map encB)] = [Blk.slice 1 5 ((out ++ u.take k ++ r).map encB)]
            rw [etk]; simp
  · repeat' ((conv => whnf); first
  | (refine sq_keep ?_)
  | (refine Br.yes ?_)
  | (refine Br.no ?_)
  | (refine Br.decT (by assumption) ?_)
  | (refine Br.decF (by assumption) ?_)
  | (refine Br.decF (by omega) ?_)
  | (refine Br.decT (by omega) ?_)
  | (refine Br.dec (fun h => ?_) (fun h => ?_))
  | (refine Br.eqT (by assumption) ?_)
  | (refine Br.eqF (by assumption) ?_)
  | (refine Br.neT (by assumption) ?_)
  | (refine Br.neF (by assumption) ?_)
  | (refine Br.eqT (by omega) ?_)
  | (refine Br.eqF (by omega) ?_)
  | (refine Br.neT (by omega) ?_)
  | (refine Br.neF (by omega) ?_)
  | (refine Br.eqI (fun h => ?_) (fun h => ?_))
  | (refine Br.neI (fun h => ?_) (fun h => ?_))
  | (refine Br.sT (by assumption) ?_)
  | (refine Br.sF (by assumption) ?_)
  | (refine Br.snT (by assumption) ?_)
  | (refine Br.snF (by assumption) ?_)
  | (refine Br.eqS (fun h => ?_) (fun h => ?_))
  | (refine Br.neS (fun h => ?_) (fun h => ?_))
  | (refine Br.not ?_)
  | (refine Br.anyT (by assumption) ?_)
  | (refine Br.anyF (by assumption) ?_)
  | (refine Br.any (fun h => ?_) (fun h => ?_))
  | (refine Ex1.b64 ?_)
  | (refine Ex1.b64add (by omega) (by omega) ?_)
  | (refine Ex1.b8 ?_)
  | (refine Ex1.i64 (by omega) (by omega) ?_)
  | (refine Ex1.u8 (by omega) (by omega) ?_)
  | (refine Ex1.i32 (by omega) (by omega) ?_)
  | (refine Ex1.u64 (by omega) (by omega) ?_)
  | (refine Need.mk ⟨rfl, rfl⟩ ?_)
  | (refine Need.mk rfl ?_)
  | (refine Need.mk ⟨rfl, rfl, Nat.le_refl _⟩ ?_)
  | (refine Got.by _ (bytesD_enc _) ?_)
  | (refine Need.mk (by omega) ?_)
  | (refine Got.by _ rfl ?_)
  | (refine Need.mk (by first | (simp; omega) | (simp; done) | fail) ?_)
  | (refine Need.mk ⟨rfl, rfl, by first | (simp; omega) | (simp; done) | fail⟩ ?_)
  | (refine Need.mk ⟨rfl, by first | (simp; omega) | (simp; done) | fail⟩ ?_)
  | (refine Need.mk ⟨by first | (simp; omega) | (simp; done) | fail, by first | (simp; omega) | (simp; done) | fail⟩ ?_)
  | fail)
    all_goals conv => whnf
    · rw [replR, replC, if_pos (.inl h), if_pos h]
    · exact hK h _ _ (Weak.of ⟨rfl, rfl, rfl, trivial⟩ rfl)

set_option maxHeartbeats 4000000 in
theorem ps27 (s t r : List UInt8) (hs : s.length ≤ 1000000) (ht : t.length ≤ 1000000000000000) (hr : t.length ≤ 1000000 → r.length ≤ 1000000) : PSpec Try.prog 27 [.str s, .str t, .str r] (.tup [.str (replR s t r), .int .i64 (replC s t r)]) := by
  refine PSpec.of_iw fac27 (by simp) ?_
  refine iw_seq1 True [(0, .str s), (1, .str t), (2, .str r)] [] (fun _ => ?_) fun K hK => hK trivial _ _ (Weak.of ⟨rfl, rfl, rfl, trivial⟩ rfl)
  refine iw_seq1 (t ≠ []) [(0, .str s), (1, .str t), (2, .str r)] [] (fun ht0 => ?_) fun K hK => ?_
  · have htl := List.length_pos_iff.2 ht0
    refine iw_seq1 True [(8, .ref 0 0), (0, .str s), (1, .str t), (2, .str r)] [.slice 1 5 []] (fun _ => ?_) fun K hK => hK trivial _ _ (Weak.trans (Weak.of (l := [(8, .nils), (0, .str s), (1, .str t), (2, .str r)]) ⟨rfl, rfl, rfl, rfl, trivial⟩ rfl) (Weak.newNil 1 5 8 _ _))
    refine iw_seq1 ((rep t r s).length ≤ 64) [(8, .ref 0 (rep t r s).length)] [.slice 1 5 ((rep t r s).map encB)] (fun hv => ?_) fun K hK => ?_
    · have hv : ¬ 64 < (rep t r s).length := by omega
      repeat' ((conv => whnf); first
        | (refine sq_keep ?_)
        | (refine Br.yes ?_)
        | (refine Br.no ?_)
        | (refine Br.decT (by assumption) ?_)
        | (refine Br.decF (by assumption) ?_)
        | (refine Br.decF (by omega) ?_)
        | (refine Br.decT (by omega) ?_)
        | (refine Br.dec (fun h => ?_) (fun h => ?_))
        | (refine Br.eqT (by assumption) ?_)
        | (refine Br.eqF (by assumption) ?_)
        | (refine Br.neT (by assumption) ?_)
        | (refine Br.neF (by assumption) ?_)
        | (refine Br.eqT (by omega) ?_)
        | (refine Br.eqF (by omega) ?_)
        | (refine Br.neT (by omega) ?_)
        | (refine Br.neF (by omega) ?_)
        | (refine Br.eqI (fun h => ?_) (fun h => ?_))
        | (refine Br.neI (fun h => ?_) (fun h => ?_))
        | (refine Br.sT (by assumption) ?_)
        | (refine Br.sF (by assumption) ?_)
        | (refine Br.snT (by assumption) ?_)
        | (refine Br.snF (by assumption) ?_)
        | (refine Br.eqS (fun h => ?_) (fun h => ?_))
        | (refine Br.neS (fun h => ?_) (fun h => ?_))
        | (refine Br.not ?_)
        | (refine Br.anyT (by assumption) ?_)
        | (refine Br.anyF (by assumption) ?_)
        | (refine Br.any (fun h => ?_) (fun h => ?_))
        | (refine Ex1.b64 ?_)
        | (refine Ex1.b64add (by omega) (by omega) ?_)
        | (refine Ex1.b8 ?_)
        | (refine Ex1.i64 (by omega) (by omega) ?_)
        | (refine Ex1.u8 (by omega) (by omega) ?_)
        | (refine Ex1.i32 (by omega) (by omega) ?_)
        | (refine Ex1.u64 (by omega) (by omega) ?_)
        | (refine Need.mk ⟨rfl, rfl⟩ ?_)
        | (refine Need.mk rfl ?_)
        | (refine Need.mk ⟨rfl, rfl, Nat.le_refl _⟩ ?_)
        | (refine Got.by _ (bytesD_enc _) ?_)
        | (refine Need.mk (by omega) ?_)
        | (refine Got.by _ rfl ?_)
        | (refine Need.mk (by first | (simp; omega) | (simp; done) | fail) ?_)
        | (refine Need.mk ⟨rfl, rfl, by first | (simp; omega) | (simp; done) | fail⟩ ?_)
        | (refine Need.mk ⟨rfl, by first | (simp; omega) | (simp; done) | fail⟩ ?_)
        | (refine Need.mk ⟨by first | (simp; omega) | (simp; done) | fail, by first | (simp; omega) | (simp; done) | fail⟩ ?_)
        | fail)
      all_goals conv => whnf
      rw [replR, replC, if_neg (by rw [not_or]; exact ⟨ht0, hv⟩), if_neg ht0, if_neg hv]
    · repeat' ((conv => whnf); first
  | (refine sq_keep ?_)
  | (refine Br.yes ?_)
  | (refine Br.no ?_)
  | (refine Br.decT (by assumption) ?_)
  | (refine Br.decF (by assumption) ?_)
  | (refine Br.decF (by omega) ?_)
  | (refine Br.decT (by omega) ?_)
  | (refine Br.dec (fun h => ?_) (fun h => ?_))
  | (refine Br.eqT (by assumption) ?_)
  | (refine Br.eqF (by assumption) ?_)
  | (refine Br.neT (by assumption) ?_)
  | (refine Br.neF (by assumption) ?_)
  | (refine Br.eqT (by omega) ?_)
  | (refine Br.eqF (by omega) ?_)
  | (refine Br.neT (by omega) ?_)
  | (refine Br.neF (by omega) ?_)
  | (refine Br.eqI (fun h => ?_) (fun h => ?_))
  | (refine Br.neI (fun h => ?_) (fun h => ?_))
  | (refine Br.sT (by assumption) ?_)
  | (refine Br.sF (by assumption) ?_)
  | (refine Br.snT (by assumption) ?_)
  | (refine Br.snF (by assumption) ?_)
  | (refine Br.eqS (fun h => ?_) (fun h => ?_))
  | (refine Br.neS (fun h => ?_) (fun h => ?_))
  | (refine Br.not ?_)
  | (refine Br.anyT (by assumption) ?_)
  | (refine Br.anyF (by assumption) ?_)
  | (refine Br.any (fun h => ?_) (fun h => ?_))
  | (refine Ex1.b64 ?_)
  | (refine Ex1.b64add (by omega) (by omega) ?_)
  | (refine Ex1.b8 ?_)
  | (refine Ex1.i64 (by omega) (by omega) ?_)
  | (refine Ex1.u8 (by omega) (by omega) ?_)
  | (refine Ex1.i32 (by omega) (by omega) ?_)
  | (refine Ex1.u64 (by omega) (by omega) ?_)
  | (refine Need.mk ⟨rfl, rfl⟩ ?_)
  | (refine Need.mk rfl ?_)
  | (refine Need.mk ⟨rfl, rfl, Nat.le_refl _⟩ ?_)
  | (refine Got.by _ (bytesD_enc _) ?_)
  | (refine Need.mk (by omega) ?_)
  | (refine Got.by _ rfl ?_)
  | (refine Need.mk (by first | (simp; omega) | (simp; done) | fail) ?_)
  | (refine Need.mk ⟨rfl, rfl, by first | (simp; omega) | (simp; done) | fail⟩ ?_)
  | (refine Need.mk ⟨rfl, by first | (simp; omega) | (simp; done) | fail⟩ ?_)
  | (refine Need.mk ⟨by first | (simp; omega) | (simp; done) | fail, by first | (simp; omega) | (simp; done) | fail⟩ ?_)
  | fail)
      refine iw_loop (σ := Nat × List UInt8) (fun p => p.2 ++ rep t r (s.drop p.1) = rep t r s ∧ p.1 ≤ s.length ∧ p.2.length ≤ 64) (fun p => s.length - p.1) (fun p => [(0, .str s), (1, .str t), (2, .str r), (8, .ref 0 p.2.length), (9, .int .i64 p.1)]) (fun p => [.slice 1 5 (p.2.map encB)]) (0, [])
        ⟨by simp, by simp, by simp⟩ (Weak.of ⟨rfl, rfl, rfl, rfl, rfl, trivial⟩ rfl) ?_
      rintro ⟨i, out⟩ ⟨h1, h2, h3⟩ K2 hK2
      change out ++ rep t r (s.drop i) = _ at h1
      simp only at h2 h3
      change iw Try.prog 0 _ _ (tm [(0, .str s), (1, .str t), (2, .str r), (8, .ref 0 out.length), (9, .int .i64 i)]) [.slice 1 5 (out.map encB)]
      by_cases hlt : i < s.length
      · by_cases hh : i + t.length ≤ s.length ∧ hit s t i
        · have e := rep_hit (r := r) ht0 hh.2
          rw [e, List.drop_drop] at h1
          have hp := ps40 s t i hs ht (by omega)
          have hd : (decide (i + t.length ≤ s.length ∧ (s.drop i).take t.length = t)) = true := decide_eq_true hh
          rw [hd] at hp
          repeat' ((conv => whnf); first
            | (refine Cl.p hp (by simp) (by simp) ?_)
            | (refine Need.mk ⟨szAll_enc _, goodAll_enc _⟩ ?_)
            | (refine Need.mk ⟨rfl, rfl, List.length_map _⟩ ?_)
            | (refine Need.mk ⟨by simp; omega, by simp; omega⟩ ?_)
            | (refine sq_keep ?_)
            | (refine Br.yes ?_)
            | (refine Br.no ?_)
            | (refine Br.decT (by assumption) ?_)
            | (refine Br.decF (by assumption) ?_)
            | (refine Br.decF (by omega) ?_)
            | (refine Br.decT (by omega) ?_)
            | (refine Br.dec (fun h => ?_) (fun h => ?_))
            | (refine Br.eqT (by assumption) ?_)
            | (refine Br.eqF (by assumption) ?_)
            | (refine Br.neT (by assumption) ?_)
            | (refine Br.neF (by assumption) ?_)
            | (refine Br.eqT (by omega) ?_)
            | (refine Br.eqF (by omega) ?_)
            | (refine Br.neT (by omega) ?_)
            | (refine Br.neF (by omega) ?_)
            | (refine Br.eqI (fun h => ?_) (fun h => ?_))
            | (refine Br.neI (fun h => ?_) (fun h => ?_))
            | (refine Br.sT (by assumption) ?_)
            | (refine Br.sF (by assumption) ?_)
            | (refine Br.snT (by assumption) ?_)
            | (refine Br.snF (by assumption) ?_)
            | (refine Br.eqS (fun h => ?_) (fun h => ?_))
            | (refine Br.neS (fun h => ?_) (fun h => ?_))
            | (refine Br.not ?_)
            | (refine Br.anyT (by assumption) ?_)
            | (refine Br.anyF (by assumption) ?_)
            | (refine Br.any (fun h => ?_) (fun h => ?_))
            | (refine Ex1.b64 ?_)
            | (refine Ex1.b64add (by omega) (by omega) ?_)
            | (refine Ex1.b8 ?_)
            | (refine Ex1.i64 (by omega) (by omega) ?_)
            | (refine Ex1.u8 (by omega) (by omega) ?_)
            | (refine Ex1.i32 (by omega) (by omega) ?_)
            | (refine Ex1.u64 (by omega) (by omega) ?_)
            | (refine Need.mk ⟨rfl, rfl⟩ ?_)
            | (refine Need.mk rfl ?_)
            | (refine Need.mk ⟨rfl, rfl, Nat.le_refl _⟩ ?_)
            | (refine Got.by _ (bytesD_enc _) ?_)
            | (refine Need.mk (by omega) ?_)
            | (refine Got.by _ rfl ?_)
            | (refine Need.mk (by first | (simp; omega) | (simp; done) | fail) ?_)
            | (refine Need.mk ⟨rfl, rfl, by first | (simp; omega) | (simp; done) | fail⟩ ?_)
            | (refine Need.mk ⟨rfl, by first | (simp; omega) | (simp; done) | fail⟩ ?_)
            | (refine Need.mk ⟨by first | (simp; omega) | (simp; done) | fail, by first | (simp; omega) | (simp; done) | fail⟩ ?_)
            | fail)
          all_goals conv => whnf
          · have hl := congrArg List.length h1
            simp only [List.length_append, List.length_map] at hl h
            have hv : 64 < (rep t r s).length := by omega
            rw [replR, replC, if_pos (.inr hv), if_neg ht0, if_pos hv]
          · simp only [List.length_map] at h
            refine hK2 (i + t.length, out ++ r) (by show s.length - (i + t.length) < s.length - i; omega) ⟨?_, hh.1, ?_⟩ _ _ (Weak.of ⟨rfl, rfl, rfl, ?_, rfl, trivial⟩ ?_)
            · show (out ++ r) ++ rep t r (s.drop (i + t.length)) = _
              rw [← h1]; simp
            · show (out ++ r).length ≤ 64
              rw [List.length_append]; omega
            · show some (D.ref 0 (out.length + (r.map encB).length)) = some (D.ref 0 (out ++ r).length)
              simp
            · show [Blk.slice 1 5 (out.map encB ++ r.map encB)] = [Blk.slice 1 5 ((out ++ r).map encB)]
              simp
        · have hd0 := drop_getD (s := s) (i := i) hlt
          have hm : ¬ hit s t i := fun x => hh ⟨hit_le ht0 x, x⟩
          have e := rep_miss (r := r) (s := s.drop i) ht0 (by rw [hd0]; simp) hm
          rw [e, hd0] at h1
          change out ++ (s.getD i 0 :: rep t r (s.drop (i + 1))) = _ at h1
          have hp := ps40 s t i hs ht (by omega)
          have hd : (decide (i + t.length ≤ s.length ∧ (s.drop i).take t.length = t)) = false := decide_eq_false hh
          rw [hd] at hp
          repeat' ((conv => whnf); first
            | (refine Cl.p hp (by simp) (by simp) ?_)
            | (refine Need.mk ⟨rfl, rfl, List.length_map _⟩ ?_)
            | (refine Need.mk ⟨by show (out.length + 1) * 1 ≤ 140737488355328; omega, by show out.length + 1 ≤ 4611686018427387904; omega⟩ ?_)
            | (refine sq_keep ?_)
            | (refine Br.yes ?_)
            | (refine Br.no ?_)
            | (refine Br.decT (by assumption) ?_)
            | (refine Br.decF (by assumption) ?_)
            | (refine Br.decF (by omega) ?_)
            | (refine Br.decT (by omega) ?_)
            | (refine Br.dec (fun h => ?_) (fun h => ?_))
            | (refine Br.eqT (by assumption) ?_)
            | (refine Br.eqF (by assumption) ?_)
            | (refine Br.neT (by assumption) ?_)
            | (refine Br.neF (by assumption) ?_)
            | (refine Br.eqT (by omega) ?_)
            | (refine Br.eqF (by omega) ?_)
            | (refine Br.neT (by omega) ?_)
            | (refine Br.neF (by omega) ?_)
            | (refine Br.eqI (fun h => ?_) (fun h => ?_))
            | (refine Br.neI (fun h => ?_) (fun h => ?_))
            | (refine Br.sT (by assumption) ?_)
            | (refine Br.sF (by assumption) ?_)
            | (refine Br.snT (by assumption) ?_)
            | (refine Br.snF (by assumption) ?_)
            | (refine Br.eqS (fun h => ?_) (fun h => ?_))
            | (refine Br.neS (fun h => ?_) (fun h => ?_))
            | (refine Br.not ?_)
            | (refine Br.anyT (by assumption) ?_)
            | (refine Br.anyF (by assumption) ?_)
            | (refine Br.any (fun h => ?_) (fun h => ?_))
            | (refine Ex1.b64 ?_)
            | (refine Ex1.b64add (by omega) (by omega) ?_)
            | (refine Ex1.b8 ?_)
            | (refine Ex1.i64 (by omega) (by omega) ?_)
            | (refine Ex1.u8 (by omega) (by omega) ?_)
            | (refine Ex1.i32 (by omega) (by omega) ?_)
            | (refine Ex1.u64 (by omega) (by omega) ?_)
            | (refine Need.mk ⟨rfl, rfl⟩ ?_)
            | (refine Need.mk rfl ?_)
            | (refine Need.mk ⟨rfl, rfl, Nat.le_refl _⟩ ?_)
            | (refine Got.by _ (bytesD_enc _) ?_)
            | (refine Need.mk (by omega) ?_)
            | (refine Got.by _ rfl ?_)
            | (refine Need.mk (by first | (simp; omega) | (simp; done) | fail) ?_)
            | (refine Need.mk ⟨rfl, rfl, by first | (simp; omega) | (simp; done) | fail⟩ ?_)
            | (refine Need.mk ⟨rfl, by first | (simp; omega) | (simp; done) | fail⟩ ?_)
            | (refine Need.mk ⟨by first | (simp; omega) | (simp; done) | fail, by first | (simp; omega) | (simp; done) | fail⟩ ?_)
            | fail)
          all_goals conv => whnf
          · have h : ((out.length + 1 : Nat) : Int) > 64 := h
            have hl := congrArg List.length h1
            simp only [List.length_append, List.length_cons] at hl
            have hv : 64 < (rep t r s).length := by omega
            rw [replR, replC, if_pos (.inr hv), if_neg ht0, if_pos hv]
          · have h : ¬ ((out.length + 1 : Nat) : Int) > 64 := h
            refine hK2 (i + 1, out ++ [s.getD i 0]) (by show s.length - (i + 1) < s.length - i; omega) ⟨?_, by show i + 1 ≤ s.length; omega, ?_⟩ _ _ (Weak.cut' (g := [.slice 1 5 [encB (s.getD i 0)]]) ⟨rfl, rfl, rfl, ?_, rfl, trivial⟩ ?_ (by simp) (by simp) (BdB.encs _ _ _ _))
            · show (out ++ [s.getD i 0]) ++ rep t r (s.drop (i + 1)) = _
              rw [← h1]; simp
            · show (out ++ [s.getD i 0]).length ≤ 64
              rw [List.length_append]; show out.length + 1 ≤ 64; omega
            · show some (D.ref 0 (out.length + 1)) = some (D.ref 0 (out ++ [s.getD i 0]).length)
              simp
            · show [Blk.slice 1 5 (out.map encB ++ [encB (s.getD i 0)]), .slice 1 5 [encB (s.getD i 0)]] = [Blk.slice 1 5 ((out ++ [s.getD i 0]).map encB)] ++ [.slice 1 5 [encB (s.getD i 0)]]
              simp
      · have hil : i = s.length := by omega
        subst hil
        rw [List.drop_length, rep_nil, List.append_nil] at h1
        subst h1
        repeat' ((conv => whnf); first
          | (refine sq_keep ?_)
          | (refine Br.yes ?_)
          | (refine Br.no ?_)
          | (refine Br.decT (by assumption) ?_)
          | (refine Br.decF (by assumption) ?_)
          | (refine Br.decF (by omega) ?_)
          | (refine Br.decT (by omega) ?_)
          | (refine Br.dec (fun h => ?_) (fun h => ?_))
          | (refine Br.eqT (by assumption) ?_)
          | (refine Br.eqF (by assumption) ?_)
          | (refine Br.neT (by assumption) ?_)
          | (refine Br.neF (by assumption) ?_)
          | (refine Br.eqT (by omega) ?_)
          | (refine Br.eqF (by omega) ?_)
          | (refine Br.neT (by omega) ?_)
          | (refine Br.neF (by omega) ?_)
          | (refine Br.eqI (fun h => ?_) (fun h => ?_))
          | (refine Br.neI (fun h => ?_) (fun h => ?_))
          | (refine Br.sT (by assumption) ?_)
          | (refine Br.sF (by assumption) ?_)
          | (refine Br.snT (by assumption) ?_)
          | (refine Br.snF (by assumption) ?_)
          | (refine Br.eqS (fun h => ?_) (fun h => ?_))
          | (refine Br.neS (fun h => ?_) (fun h => ?_))
          | (refine Br.not ?_)
          | (refine Br.anyT (by assumption) ?_)
          | (refine Br.anyF (by assumption) ?_)
          | (refine Br.any (fun h => ?_) (fun h => ?_))
          | (refine Ex1.b64 ?_)
          | (refine Ex1.b64add (by omega) (by omega) ?_)
          | (refine Ex1.b8 ?_)
          | (refine Ex1.i64 (by omega) (by omega) ?_)
          | (refine Ex1.u8 (by omega) (by omega) ?_)
          | (refine Ex1.i32 (by omega) (by omega) ?_)
          | (refine Ex1.u64 (by omega) (by omega) ?_)
          | (refine Need.mk ⟨rfl, rfl⟩ ?_)
          | (refine Need.mk rfl ?_)
          | (refine Need.mk ⟨rfl, rfl, Nat.le_refl _⟩ ?_)
          | (refine Got.by _ (bytesD_enc _) ?_)
          | (refine Need.mk (by omega) ?_)
          | (refine Got.by _ rfl ?_)
          | (refine Need.mk (by first | (simp; omega) | (simp; done) | fail) ?_)
          | (refine Need.mk ⟨rfl, rfl, by first | (simp; omega) | (simp; done) | fail⟩ ?_)
          | (refine Need.mk ⟨rfl, by first | (simp; omega) | (simp; done) | fail⟩ ?_)
          | (refine Need.mk ⟨by first | (simp; omega) | (simp; done) | fail, by first | (simp; omega) | (simp; done) | fail⟩ ?_)
          | fail)
        all_goals conv => whnf
        exact hK h3 _ _ (Weak.of ⟨rfl, trivial⟩ rfl)
  · repeat' ((conv => whnf); first
  | (refine sq_keep ?_)
  | (refine Br.yes ?_)
  | (refine Br.no ?_)
  | (refine Br.decT (by assumption) ?_)
  | (refine Br.decF (by assumption) ?_)
  | (refine Br.decF (by omega) ?_)
  | (refine Br.decT (by omega) ?_)
  | (refine Br.dec (fun h => ?_) (fun h => ?_))
  | (refine Br.eqT (by assumption) ?_)
  | (refine Br.eqF (by assumption) ?_)
  | (refine Br.neT (by assumption) ?_)
  | (refine Br.neF (by assumption) ?_)
  | (refine Br.eqT (by omega) ?_)
  | (refine Br.eqF (by omega) ?_)
  | (refine Br.neT (by omega) ?_)
  | (refine Br.neF (by omega) ?_)
  | (refine Br.eqI (fun h => ?_) (fun h => ?_))
  | (refine Br.neI (fun h => ?_) (fun h => ?_))
  | (refine Br.sT (by assumption) ?_)
  | (refine Br.sF (by assumption) ?_)
  | (refine Br.snT (by assumption) ?_)
  | (refine Br.snF (by assumption) ?_)
  | (refine Br.eqS (fun h => ?_) (fun h => ?_))
  | (refine Br.neS (fun h => ?_) (fun h => ?_))
  | (refine Br.not ?_)
  | (refine Br.anyT (by assumption) ?_)
  | (refine Br.anyF (by assumption) ?_)
  | (refine Br.any (fun h => ?_) (fun h => ?_))
  | (refine Ex1.b64 ?_)
  | (refine Ex1.b64add (by omega) (by omega) ?_)
  | (refine Ex1.b8 ?_)
  | (refine Ex1.i64 (by omega) (by omega) ?_)
  | (refine Ex1.u8 (by omega) (by omega) ?_)
  | (refine Ex1.i32 (by omega) (by omega) ?_)
  | (refine Ex1.u64 (by omega) (by omega) ?_)
  | (refine Need.mk ⟨rfl, rfl⟩ ?_)
  | (refine Need.mk rfl ?_)
  | (refine Need.mk ⟨rfl, rfl, Nat.le_refl _⟩ ?_)
  | (refine Got.by _ (bytesD_enc _) ?_)
  | (refine Need.mk (by omega) ?_)
  | (refine Got.by _ rfl ?_)
  | (refine Need.mk (by first | (simp; omega) | (simp; done) | fail) ?_)
  | (refine Need.mk ⟨rfl, rfl, by first | (simp; omega) | (simp; done) | fail⟩ ?_)
  | (refine Need.mk ⟨rfl, by first | (simp; omega) | (simp; done) | fail⟩ ?_)
  | (refine Need.mk ⟨by first | (simp; omega) | (simp; done) | fail, by first | (simp; omega) | (simp; done) | fail⟩ ?_)
  | fail)
    all_goals conv => whnf
    · rw [replR, replC, if_pos (.inl h), if_pos h]
    · exact hK h _ _ (Weak.of ⟨rfl, rfl, rfl, trivial⟩ rfl)

theorem ps7 (s t r : List UInt8) : PSpec Try.prog 7 [.str s, .str t, .str r] (.bool true) := by
  refine PSpec.of_iw fac7 (by simp) ?_
  repeat' ((conv => whnf); first
    | (refine Cl.p ps12 (by simp) (by simp) ?_)
    | (refine Cl.p (ps26 _ _ _ (by omega) (by omega) (by omega)) (by simp) (by simp) ?_)
    | (refine Cl.p (ps27 _ _ _ (by omega) (by omega) (by omega)) (by simp) (by simp) ?_)
    | (refine Cl.p (ps28 _ _ (by omega) (by omega)) (by simp) (by simp) ?_)
    | (refine Cl.p (ps29 _ _ (by omega) (by omega)) (by simp) (by simp) ?_)
    | (refine Br.eqT rfl ?_)
    | (refine Br.sT rfl ?_)
    | (refine sq_keep ?_)
    | (refine Br.yes ?_)
    | (refine Br.no ?_)
    | (refine Br.decT (by assumption) ?_)
    | (refine Br.decF (by assumption) ?_)
    | (refine Br.decF (by omega) ?_)
    | (refine Br.decT (by omega) ?_)
    | (refine Br.dec (fun h => ?_) (fun h => ?_))
    | (refine Br.eqT (by assumption) ?_)
    | (refine Br.eqF (by assumption) ?_)
    | (refine Br.neT (by assumption) ?_)
    | (refine Br.neF (by assumption) ?_)
    | (refine Br.eqT (by omega) ?_)
    | (refine Br.eqF (by omega) ?_)
    | (refine Br.neT (by omega) ?_)
    | (refine Br.neF (by omega) ?_)
    | (refine Br.eqI (fun h => ?_) (fun h => ?_))
    | (refine Br.neI (fun h => ?_) (fun h => ?_))
    | (refine Br.sT (by assumption) ?_)
    | (refine Br.sF (by assumption) ?_)
    | (refine Br.snT (by assumption) ?_)
    | (refine Br.snF (by assumption) ?_)
    | (refine Br.eqS (fun h => ?_) (fun h => ?_))
    | (refine Br.neS (fun h => ?_) (fun h => ?_))
    | (refine Br.not ?_)
    | (refine Br.anyT (by assumption) ?_)
    | (refine Br.anyF (by assumption) ?_)
    | (refine Br.any (fun h => ?_) (fun h => ?_))
    | (refine Ex1.b64 ?_)
    | (refine Ex1.b64add (by omega) (by omega) ?_)
    | (refine Ex1.b8 ?_)
    | (refine Ex1.i64 (by omega) (by omega) ?_)
    | (refine Ex1.u8 (by omega) (by omega) ?_)
    | (refine Ex1.i32 (by omega) (by omega) ?_)
    | (refine Ex1.u64 (by omega) (by omega) ?_)
    | (refine Need.mk ⟨rfl, rfl⟩ ?_)
    | (refine Need.mk rfl ?_)
    | (refine Need.mk ⟨rfl, rfl, Nat.le_refl _⟩ ?_)
    | (refine Got.by _ (bytesD_enc _) ?_)
    | (refine Need.mk (by omega) ?_)
    | (refine Got.by _ rfl ?_)
    | (refine Need.mk (by first | (simp; omega) | (simp; done) | fail) ?_)
    | (refine Need.mk ⟨rfl, rfl, by first | (simp; omega) | (simp; done) | fail⟩ ?_)
    | (refine Need.mk ⟨rfl, by first | (simp; omega) | (simp; done) | fail⟩ ?_)
    | (refine Need.mk ⟨by first | (simp; omega) | (simp; done) | fail, by first | (simp; omega) | (simp; done) | fail⟩ ?_)
    | fail)
  all_goals rfl

end Go.Proofs.Ytamckclacocifaa
