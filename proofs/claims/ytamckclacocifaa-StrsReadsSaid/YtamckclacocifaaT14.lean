import Derived.Test.YtamckclacocifaaT13
namespace Go.Proofs.Ytamckclacocifaa
open Go.Ab

theorem digit_b (m : Nat) : (UInt8.ofNat (48 + m % 10)).toNat = 48 + m % 10 := by rw [UInt8.toNat_ofNat']; omega

theorem digs_facts (m : Nat) : val (digs m) = m ∧ (∀ b ∈ digs m, isD b) ∧ (m ≠ 0 → digs m ≠ [] ∧ (digs m).head? ≠ some 48) := by
  induction m using Nat.strongRecOn with
  | _ m ih =>
    by_cases h0 : m = 0
    · subst h0; rw [digs_zero]; exact ⟨rfl, by simp, fun h => absurd rfl h⟩
    · obtain ⟨h1, h2, h3⟩ := ih (m / 10) (by omega)
      rw [digs_pos h0]
      refine ⟨by rw [val_snoc, h1, digit_b]; omega, fun b hb => ?_, fun _ => ⟨by simp, ?_⟩⟩
      · rw [List.mem_append, List.mem_singleton] at hb
        rcases hb with hb | rfl
        · exact h2 b hb
        · unfold isD; rw [digit_b]; omega
      · by_cases hd : m / 10 = 0
        · rw [hd, digs_zero]
          intro e
          have e' : UInt8.ofNat (48 + m % 10) = 48 := by simpa using e
          have := digit_b m
          rw [e'] at this
          have : (48 : UInt8).toNat = 48 := rfl
          omega
        · obtain ⟨g1, g2⟩ := h3 hd
          cases hx : digs (m / 10) with
          | nil => exact absurd hx g1
          | cons c t => rw [hx] at g2; simpa using g2

theorem digs_val (l : List UInt8) (hd : ∀ b ∈ l, isD b) (hh : l.head? ≠ some 48) : digs (val l) = l := by
  induction hn : l.length generalizing l with
  | zero =>
    have : l = [] := List.length_eq_zero_iff.1 hn
    subst this; exact digs_zero
  | succ n ih =>
    obtain ⟨u, b, rfl⟩ : ∃ u b, l = u ++ [b] := ⟨l.dropLast, l.getLast (by intro e; subst e; simp at hn), (List.dropLast_concat_getLast _).symm⟩
    have hb : isD b := hd b (by simp)
    have hu : ∀ b ∈ u, isD b := fun b h => hd b (by simp [h])
    have hpos : 0 < val (u ++ [b]) ∧ digs (val u) = u := by
      cases hx : u with
      | nil =>
        subst hx
        refine ⟨?_, digs_zero⟩
        have : b ≠ 48 := by intro e; subst e; simp at hh
        have h48 : b.toNat ≠ 48 := fun e => this (UInt8.toNat_inj.1 e)
        rw [val_snoc]
        unfold isD at hb
        omega
      | cons c t =>
        have hh' : u.head? ≠ some 48 := by rw [hx] at hh ⊢; simpa using hh
        have e := ih u hu hh' (by simpa using hn)
        rw [← hx]
        refine ⟨?_, e⟩
        rw [val_snoc]
        have : val u ≠ 0 := by intro h0; rw [h0, digs_zero] at e; rw [hx] at e; cases e
        omega
    rw [digs_pos (by omega)]
    have hb' := hb
    unfold isD at hb'
    have e1 : val (u ++ [b]) / 10 = val u := by rw [val_snoc]; omega
    have e2 : val (u ++ [b]) % 10 = b.toNat - 48 := by rw [val_snoc]; omega
    rw [e1, e2, hpos.2]
    congr 2
    apply UInt8.toNat_inj.1
    rw [UInt8.toNat_ofNat']; omega

theorem show_read (n : Int) : readC (showS n) = (if 1000000 < n.natAbs then 1 else 0) ∧ readR (showS n) = (if 1000000 < n.natAbs then 0 else n) := by
  by_cases h0 : n = 0
  · subst h0
    have e : showS 0 = [48] := rfl
    rw [e]
    constructor <;> decide
  · obtain ⟨f1, f2, f3⟩ := digs_facts n.natAbs
    obtain ⟨g1, g2⟩ := f3 (by omega)
    have hb : body n = digs n.natAbs := by rw [body, if_neg h0]
    have hbo : bodyOf (showS n) = digs n.natAbs := by
      by_cases hn : n < 0
      · rw [showS, if_pos hn, hb]; simp [bodyOf]
      · rw [showS, if_neg hn, hb, bodyOf, if_neg]
        intro e
        have hm := f2 45 (List.mem_of_mem_head? (by rw [e]; rfl))
        unfold isD at hm
        have : (45 : UInt8).toNat = 45 := rfl
        omega
    have hbad : ¬ badB (showS n) = true := by
      intro hx
      have hx := of_decide_eq_true hx
      rw [hbo] at hx
      rcases hx with hx | hx | ⟨b, h1, h2⟩
      · exact g1 hx
      · exact g2 hx.1
      · exact h2 (f2 b h1)
    rw [readC, readR, if_neg hbad, if_neg hbad, hbo, f1]
    refine ⟨by split <;> rfl, ?_⟩
    by_cases hv : 1000000 < n.natAbs
    · rw [if_pos hv, if_pos hv]
    · rw [if_neg hv, if_neg hv]
      by_cases hn : n < 0
      · rw [if_pos (by rw [showS, if_pos hn, hb]; simp)]; omega
      · rw [if_neg (by rw [showS, if_neg hn, hb]; omega)]; omega

theorem read_show {s : List UInt8} (h : readC s = 0) : showS (readR s) = s ∧ -1000000 ≤ readR s ∧ readR s ≤ 1000000 := by
  rw [readC] at h
  by_cases hbad : badB s = true
  · rw [if_pos hbad] at h; omega
  rw [if_neg hbad] at h
  by_cases hv : 1000000 < val (bodyOf s)
  · rw [if_pos hv] at h; omega
  rw [readR, if_neg hbad, if_neg hv]
  have hx : ¬ (bodyOf s = [] ∨ ((bodyOf s).head? = some 48 ∧ s ≠ [48]) ∨ ∃ b ∈ bodyOf s, ¬ isD b) := fun e => hbad (decide_eq_true e)
  rw [not_or, not_or] at hx
  obtain ⟨h1, h2, h3⟩ := hx
  have hd : ∀ b ∈ bodyOf s, isD b := fun b hb => Classical.byContradiction fun hn => h3 ⟨b, hb, hn⟩
  by_cases hs : s = [48]
  · subst hs; decide
  · have hh : (bodyOf s).head? ≠ some 48 := fun e => h2 ⟨e, hs⟩
    have e := digs_val _ hd hh
    have hv0 : val (bodyOf s) ≠ 0 := by intro h0; rw [h0, digs_zero] at e; exact h1 e.symm
    by_cases hl : (bodyOf s).length < s.length
    · rw [if_pos hl]
      refine ⟨?_, by omega, by omega⟩
      rw [showS, if_pos (by omega), body, if_neg (by omega), show (-(val (bodyOf s) : Int)).natAbs = val (bodyOf s) by omega, e]
      unfold bodyOf at hl ⊢
      split
      · rename_i h45
        cases s with
        | nil => simp at h45
        | cons c t => simp at h45; subst h45; rfl
      · rename_i h45; rw [if_neg h45] at hl; omega
    · rw [if_neg hl]
      refine ⟨?_, by omega, by omega⟩
      rw [showS, if_neg (by omega), body, if_neg (by omega), show ((val (bodyOf s) : Int)).natAbs = val (bodyOf s) by omega, e]
      unfold bodyOf at hl ⊢
      split
      · rename_i h45
        rw [if_pos h45] at hl
        cases s with
        | nil => simp at h45
        | cons c t => simp at hl
      · rfl

theorem showS_length (n : Int) (h1 : -9223372036854775808 ≤ n) (h2 : n ≤ 9223372036854775807) : (showS n).length ≤ 1000000 := by
  have hl : (digs n.natAbs).length ≤ 20 := digs_len 20 _ (by omega)
  unfold showS body
  split <;> split <;> simp <;> omega

theorem ps9 (n : Int) (h1 : -9223372036854775808 ≤ n) (h2 : n ≤ 9223372036854775807) : PSpec Try.prog 9 [.int .i64 n] (.bool true) := by
  refine PSpec.of_iw fac9 (by simp) ?_
  have hr := show_read n
  by_cases hb : 1000000 < n.natAbs
  · rw [if_pos hb, if_pos hb] at hr
    repeat' ((conv => whnf); first
      | (refine Cl.p ps12 (by simp) (by simp) ?_)
      | (refine Cl.p (ps30 _ h1 h2) (by simp) (by simp) ?_)
      | (refine Cl.p (ps31 _ h1 h2) (by simp) (by simp) ?_)
      | (refine Cl.p (ps32 _ (showS_length n h1 h2)) (by simp) (by simp) ?_)
      | (refine Br.snF rfl ?_)
      | (refine Br.sT rfl ?_)
      | (refine Br.eqT hr.1 ?_)
      | (refine Br.eqT hr.2 ?_)
      | (refine sq_keep ?_)
      | (refine Br.yes ?_)
      | (refine Br.no ?_)
      | (refine Br.decT (by assumption) ?_)
      | (refine Br.decF (by assumption) ?_)
      | (refine Br.decF (by omega) ?_)
      | (refine Br.decT (by omega) ?_)
      | (refine Br.dec (fun h => ?_) (fun h => ?_))
      | (refine Br.eqT (by assumption) ?_)
      | (refine Br.eqF (by assumption) ?_)
      | (refine Br.neT (by assumption) ?_)
      | (refine Br.neF (by assumption) ?_)
      | (refine Br.eqT (by omega) ?_)
      | (refine Br.eqF (by omega) ?_)
      | (refine Br.neT (by omega) ?_)
      | (refine Br.neF (by omega) ?_)
      | (refine Br.eqI (fun h => ?_) (fun h => ?_))
      | (refine Br.neI (fun h => ?_) (fun h => ?_))
      | (refine Br.sT (by assumption) ?_)
      | (refine Br.sF (by assumption) ?_)
      | (refine Br.snT (by assumption) ?_)
      | (refine Br.snF (by assumption) ?_)
      | (refine Br.eqS (fun h => ?_) (fun h => ?_))
      | (refine Br.neS (fun h => ?_) (fun h => ?_))
      | (refine Br.not ?_)
      | (refine Br.anyT (by assumption) ?_)
      | (refine Br.anyF (by assumption) ?_)
      | (refine Br.any (fun h => ?_) (fun h => ?_))
      | (refine Ex1.b64 ?_)
      | (refine Ex1.b64add (by omega) (by omega) ?_)
      | (refine Ex1.b8 ?_)
      | (refine Ex1.i64 (by omega) (by omega) ?_)
      | (refine Ex1.u8 (by omega) (by omega) ?_)
      | (refine Ex1.i32 (by omega) (by omega) ?_)
      | (refine Ex1.u64 (by omega) (by omega) ?_)
      | (refine Need.mk ⟨rfl, rfl⟩ ?_)
      | (refine Need.mk rfl ?_)
      | (refine Need.mk ⟨rfl, rfl, Nat.le_refl _⟩ ?_)
      | (refine Got.by _ (bytesD_enc _) ?_)
      | (refine Need.mk (by omega) ?_)
      | (refine Got.by _ rfl ?_)
      | (refine Need.mk (by first | (simp; omega) | (simp; done) | fail) ?_)
      | (refine Need.mk ⟨rfl, rfl, by first | (simp; omega) | (simp; done) | fail⟩ ?_)
      | (refine Need.mk ⟨rfl, by first | (simp; omega) | (simp; done) | fail⟩ ?_)
      | (refine Need.mk ⟨by first | (simp; omega) | (simp; done) | fail, by first | (simp; omega) | (simp; done) | fail⟩ ?_)
      | fail)
    all_goals rfl
  · rw [if_neg hb, if_neg hb] at hr
    repeat' ((conv => whnf); first
      | (refine Cl.p ps12 (by simp) (by simp) ?_)
      | (refine Cl.p (ps30 _ h1 h2) (by simp) (by simp) ?_)
      | (refine Cl.p (ps31 _ h1 h2) (by simp) (by simp) ?_)
      | (refine Cl.p (ps32 _ (showS_length n h1 h2)) (by simp) (by simp) ?_)
      | (refine Br.snF rfl ?_)
      | (refine Br.sT rfl ?_)
      | (refine Br.eqT hr.1 ?_)
      | (refine Br.eqT hr.2 ?_)
      | (refine sq_keep ?_)
      | (refine Br.yes ?_)
      | (refine Br.no ?_)
      | (refine Br.decT (by assumption) ?_)
      | (refine Br.decF (by assumption) ?_)
      | (refine Br.decF (by omega) ?_)
      | (refine Br.decT (by omega) ?_)
      | (refine Br.dec (fun h => ?_) (fun h => ?_))
      | (refine Br.eqT (by assumption) ?_)
      | (refine Br.eqF (by assumption) ?_)
      | (refine Br.neT (by assumption) ?_)
      | (refine Br.neF (by assumption) ?_)
      | (refine Br.eqT (by omega) ?_)
      | (refine Br.eqF (by omega) ?_)
      | (refine Br.neT (by omega) ?_)
      | (refine Br.neF (by omega) ?_)
      | (refine Br.eqI (fun h => ?_) (fun h => ?_))
      | (refine Br.neI (fun h => ?_) (fun h => ?_))
      | (refine Br.sT (by assumption) ?_)
      | (refine Br.sF (by assumption) ?_)
      | (refine Br.snT (by assumption) ?_)
      | (refine Br.snF (by assumption) ?_)
      | (refine Br.eqS (fun h => ?_) (fun h => ?_))
      | (refine Br.neS (fun h => ?_) (fun h => ?_))
      | (refine Br.not ?_)
      | (refine Br.anyT (by assumption) ?_)
      | (refine Br.anyF (by assumption) ?_)
      | (refine Br.any (fun h => ?_) (fun h => ?_))
      | (refine Ex1.b64 ?_)
      | (refine Ex1.b64add (by omega) (by omega) ?_)
      | (refine Ex1.b8 ?_)
      | (refine Ex1.i64 (by omega) (by omega) ?_)
      | (refine Ex1.u8 (by omega) (by omega) ?_)
      | (refine Ex1.i32 (by omega) (by omega) ?_)
      | (refine Ex1.u64 (by omega) (by omega) ?_)
      | (refine Need.mk ⟨rfl, rfl⟩ ?_)
      | (refine Need.mk rfl ?_)
      | (refine Need.mk ⟨rfl, rfl, Nat.le_refl _⟩ ?_)
      | (refine Got.by _ (bytesD_enc _) ?_)
      | (refine Need.mk (by omega) ?_)
      | (refine Got.by _ rfl ?_)
      | (refine Need.mk (by first | (simp; omega) | (simp; done) | fail) ?_)
      | (refine Need.mk ⟨rfl, rfl, by first | (simp; omega) | (simp; done) | fail⟩ ?_)
      | (refine Need.mk ⟨rfl, by first | (simp; omega) | (simp; done) | fail⟩ ?_)
      | (refine Need.mk ⟨by first | (simp; omega) | (simp; done) | fail, by first | (simp; omega) | (simp; done) | fail⟩ ?_)
      | fail)
    all_goals rfl

theorem ps10 (s : List UInt8) : PSpec Try.prog 10 [.str s] (.bool true) := by
  refine PSpec.of_iw fac10 (by simp) ?_
  by_cases hc : readC s = 0
  · have hr := read_show hc
    repeat' ((conv => whnf); first
      | (refine Cl.p ps12 (by simp) (by simp) ?_)
      | (refine Cl.p (ps32 _ (by omega)) (by simp) (by simp) ?_)
      | (refine Cl.p (ps33 _ (by omega)) (by simp) (by simp) ?_)
      | (refine Cl.p (ps30 _ (by omega) (by omega)) (by simp) (by simp) ?_)
      | (refine Br.eqT rfl ?_)
      | (refine Br.neF hc ?_)
      | (refine Br.sT hr.1 ?_)
      | (refine sq_keep ?_)
      | (refine Br.yes ?_)
      | (refine Br.no ?_)
      | (refine Br.decT (by assumption) ?_)
      | (refine Br.decF (by assumption) ?_)
      | (refine Br.decF (by omega) ?_)
      | (refine Br.decT (by omega) ?_)
      | (refine Br.dec (fun h => ?_) (fun h => ?_))
      | (refine Br.eqT (by assumption) ?_)
      | (refine Br.eqF (by assumption) ?_)
      | (refine Br.neT (by assumption) ?_)
      | (refine Br.neF (by assumption) ?_)
      | (refine Br.eqT (by omega) ?_)
      | (refine Br.eqF (by omega) ?_)
      | (refine Br.neT (by omega) ?_)
      | (refine Br.neF (by omega) ?_)
      | (refine Br.eqI (fun h => ?_) (fun h => ?_))
      | (refine Br.neI (fun h => ?_) (fun h => ?_))
      | (refine Br.sT (by assumption) ?_)
      | (refine Br.sF (by assumption) ?_)
      | (refine Br.snT (by assumption) ?_)
      | (refine Br.snF (by assumption) ?_)
      | (refine Br.eqS (fun h => ?_) (fun h => ?_))
      | (refine Br.neS (fun h => ?_) (fun h => ?_))
      | (refine Br.not ?_)
      | (refine Br.anyT (by assumption) ?_)
      | (refine Br.anyF (by assumption) ?_)
      | (refine Br.any (fun h => ?_) (fun h => ?_))
      | (refine Ex1.b64 ?_)
      | (refine Ex1.b64add (by omega) (by omega) ?_)
      | (refine Ex1.b8 ?_)
      | (refine Ex1.i64 (by omega) (by omega) ?_)
      | (refine Ex1.u8 (by omega) (by omega) ?_)
      | (refine Ex1.i32 (by omega) (by omega) ?_)
      | (refine Ex1.u64 (by omega) (by omega) ?_)
      | (refine Need.mk ⟨rfl, rfl⟩ ?_)
      | (refine Need.mk rfl ?_)
      | (refine Need.mk ⟨rfl, rfl, Nat.le_refl _⟩ ?_)
      | (refine Got.by _ (bytesD_enc _) ?_)
      | (refine Need.mk (by omega) ?_)
      | (refine Got.by _ rfl ?_)
      | (refine Need.mk (by first | (simp; omega) | (simp; done) | fail) ?_)
      | (refine Need.mk ⟨rfl, rfl, by first | (simp; omega) | (simp; done) | fail⟩ ?_)
      | (refine Need.mk ⟨rfl, by first | (simp; omega) | (simp; done) | fail⟩ ?_)
      | (refine Need.mk ⟨by first | (simp; omega) | (simp; done) | fail, by first | (simp; omega) | (simp; done) | fail⟩ ?_)
      | fail)
    all_goals rfl
  · repeat' ((conv => whnf); first
  | (refine Cl.p ps12 (by simp) (by simp) ?_)
  | (refine Cl.p (ps32 _ (by omega)) (by simp) (by simp) ?_)
  | (refine Cl.p (ps33 _ (by omega)) (by simp) (by simp) ?_)
  | (refine Br.eqT rfl ?_)
  | (refine Br.neT hc ?_)
  | (refine sq_keep ?_)
  | (refine Br.yes ?_)
  | (refine Br.no ?_)
  | (refine Br.decT (by assumption) ?_)
  | (refine Br.decF (by assumption) ?_)
  | (refine Br.decF (by omega) ?_)
  | (refine Br.decT (by omega) ?_)
  | (refine Br.dec (fun h => ?_) (fun h => ?_))
  | (refine Br.eqT (by assumption) ?_)
  | (refine Br.eqF (by assumption) ?_)
  | (refine Br.neT (by assumption) ?_)
  | (refine Br.neF (by assumption) ?_)
  | (refine Br.eqT (by omega) ?_)
  | (refine Br.eqF (by omega) ?_)
  | (refine Br.neT (by omega) ?_)
  | (refine Br.neF (by omega) ?_)
  | (refine Br.eqI (fun h => ?_) (fun h => ?_))
  | (refine Br.neI (fun h => ?_) (fun h => ?_))
  | (refine Br.sT (by assumption) ?_)
  | (refine Br.sF (by assumption) ?_)
  | (refine Br.snT (by assumption) ?_)
  | (refine Br.snF (by assumption) ?_)
  | (refine Br.eqS (fun h => ?_) (fun h => ?_))
  | (refine Br.neS (fun h => ?_) (fun h => ?_))
  | (refine Br.not ?_)
  | (refine Br.anyT (by assumption) ?_)
  | (refine Br.anyF (by assumption) ?_)
  | (refine Br.any (fun h => ?_) (fun h => ?_))
  | (refine Ex1.b64 ?_)
  | (refine Ex1.b64add (by omega) (by omega) ?_)
  | (refine Ex1.b8 ?_)
  | (refine Ex1.i64 (by omega) (by omega) ?_)
  | (refine Ex1.u8 (by omega) (by omega) ?_)
  | (refine Ex1.i32 (by omega) (by omega) ?_)
  | (refine Ex1.u64 (by omega) (by omega) ?_)
  | (refine Need.mk ⟨rfl, rfl⟩ ?_)
  | (refine Need.mk rfl ?_)
  | (refine Need.mk ⟨rfl, rfl, Nat.le_refl _⟩ ?_)
  | (refine Got.by _ (bytesD_enc _) ?_)
  | (refine Need.mk (by omega) ?_)
  | (refine Got.by _ rfl ?_)
  | (refine Need.mk (by first | (simp; omega) | (simp; done) | fail) ?_)
  | (refine Need.mk ⟨rfl, rfl, by first | (simp; omega) | (simp; done) | fail⟩ ?_)
  | (refine Need.mk ⟨rfl, by first | (simp; omega) | (simp; done) | fail⟩ ?_)
  | (refine Need.mk ⟨by first | (simp; omega) | (simp; done) | fail, by first | (simp; omega) | (simp; done) | fail⟩ ?_)
  | fail)
    all_goals rfl

end Go.Proofs.Ytamckclacocifaa
