import Derived.Test.YtamckclacocifaaT18
import Derived.Test.YtamckclacocifaaT9
namespace Go.Proofs.Ytamckclacocifaa
open Go.Ab

theorem wst_run {s : List UInt8} {i : Nat} {out : List (List UInt8)} (h : wst s i = (-1, out)) : ∀ j, i ≤ j → (∀ k, i ≤ k → k < j → s.getD k 0 ≠ 32) → wst s j = if i < j then ((i : Int), out) else (-1, out) := by
  intro j
  induction j with
  | zero => intro h1 _; have : i = 0 := by omega
            subst this; rw [if_neg (by omega)]; exact h
  | succ j ih =>
    intro h1 h2
    by_cases he : i = j + 1
    · subst he; rw [if_neg (by omega)]; exact h
    · have e := ih (by omega) fun k a b => h2 k a (by omega)
      rw [if_pos (by omega)]
      show wstep s j (wst s j) = _
      rw [e, wstep, if_neg (h2 j (by omega) (by omega))]
      by_cases hij : i < j
      · rw [if_pos hij, if_neg (by show ¬ (i : Int) < 0; omega)]
      · have : i = j := by omega
        subst this
        rw [if_neg hij, if_pos (by show (-1 : Int) < 0; omega)]

/-- What a scan from i to j adds. -/
def addW (s : List UInt8) (i j : Nat) (out : List (List UInt8)) : List (List UInt8) := if i < j then out ++ [(s.drop i).take (j - i)] else out

theorem wst_next {s : List UInt8} {i j : Nat} {out : List (List UInt8)} (h : wst s i = (-1, out)) (hij : i ≤ j) (hk : ∀ k, i ≤ k → k < j → s.getD k 0 ≠ 32) (hj : s.getD j 0 = 32) : wst s (j + 1) = (-1, addW s i j out) := by
  show wstep s j (wst s j) = _
  rw [wst_run h j hij hk, wstep, if_pos hj, addW]
  by_cases c : i < j
  · rw [if_pos c, if_pos c, if_pos (by show (0 : Int) ≤ i; omega)]; rfl
  · rw [if_neg c, if_neg c, if_neg (by show ¬ (0 : Int) ≤ -1; omega)]

theorem words_end {s : List UInt8} {i : Nat} {out : List (List UInt8)} (h : wst s i = (-1, out)) (hij : i ≤ s.length) (hk : ∀ k, i ≤ k → k < s.length → s.getD k 0 ≠ 32) : wordsL s = addW s i s.length out := by
  have e := wst_run h s.length hij hk
  rw [wordsL, e, addW]
  by_cases c : i < s.length
  · rw [if_pos c, if_pos c, if_pos (by show (0 : Int) ≤ i; omega)]
    show out ++ [s.drop i] = _
    rw [List.take_of_length_le (by rw [List.length_drop]; omega)]
  · rw [if_neg c, if_neg c, if_neg (by show ¬ (0 : Int) ≤ -1; omega)]

set_option maxHeartbeats 4000000 in
theorem ps42 (s : List UInt8) (hs : s.length ≤ 1000000) : PSpec Try.prog 42 [.str s] (.list (wordsD (wordsL s))) := by
  refine PSpec.of_iw fac42 (by simp) ?_
  refine iw_seq1 True [(0, .str s)] [] (fun _ => ?_) fun K hK => hK trivial _ _ (Weak.of ⟨rfl, trivial⟩ rfl)
  refine iw_seq1 True [(3, .ref 0 0), (0, .str s)] [.slice 1 9 []] (fun _ => ?_) fun K hK => hK trivial _ _ (Weak.trans (Weak.of (l := [(3, .nils), (0, .str s)]) ⟨rfl, rfl, trivial⟩ rfl) (Weak.newNil 1 9 3 _ _))
  refine iw_seq1 True [(3, .list (wordsD (wordsL s)))] [] (fun _ => ?_) fun K hK => ?_
  · repeat' ((conv => whnf); first
  | (refine sq_keep ?_)
  | (refine Br.yes ?_)
  | (refine Br.no ?_)
  | (refine Br.decT (by assumption) ?_)
  | (refine Br.decF (by assumption) ?_)
  | (refine Br.decF (by omega) ?_)
  | (refine Br.decT (by omega) ?_)
  | (refine Br.dec (fun h => ?_) (fun h => ?_))
  | (refine Br.eqT (by assumption) ?_)
  | (refine Br.eqF (by assumption) ?_)
  | (refine Br.neT (by assumption) ?_)
  | (refine Br.neF (by assumption) ?_)
  | (refine Br.eqT (by omega) ?_)
  | (refine Br.eqF (by omega) ?_)
  | (refine Br.neT (by omega) ?_)
  | (refine Br.neF (by omega) ?_)
  | (refine Br.eqI (fun h => ?_) (fun h => ?_))
  | (refine Br.neI (fun h => ?_) (fun h => ?_))
  | (refine Br.sT (by assumption) ?_)
  | (refine Br.sF (by assumption) ?_)
  | (refine Br.snT (by assumption) ?_)
  | (refine Br.snF (by assumption) ?_)
  | (refine Br.eqS (fun h => ?_) (fun h => ?_))
  | (refine Br.neS (fun h => ?_) (fun h => ?_))
  | (refine Br.not ?_)
  | (refine Br.anyT (by assumption) ?_)
  | (refine Br.anyF (by assumption) ?_)
  | (refine Br.any (fun h => ?_) (fun h => ?_))
  | (refine Ex1.b64 ?_)
  | (refine Ex1.b64add (by omega) (by omega) ?_)
  | (refine Ex1.b8 ?_)
  | (refine Ex1.i64 (by omega) (by omega) ?_)
  | (refine Ex1.u8 (by omega) (by omega) ?_)
  | (refine Ex1.i32 (by omega) (by omega) ?_)
  | (refine Ex1.u64 (by omega) (by omega) ?_)
  | (refine Need.mk ⟨rfl, rfl⟩ ?_)
  | (refine Need.mk rfl ?_)
  | (refine Need.mk ⟨rfl, rfl, Nat.le_refl _⟩ ?_)
  | (refine Got.by _ (bytesD_enc _) ?_)
  | (refine Need.mk (by omega) ?_)
  | (refine Got.by _ rfl ?_)
  | (refine Need.mk (by first | (simp; omega) | (simp; done) | fail) ?_)
  | (refine Need.mk ⟨rfl, rfl, by first | (simp; omega) | (simp; done) | fail⟩ ?_)
  | (refine Need.mk ⟨rfl, by first | (simp; omega) | (simp; done) | fail⟩ ?_)
  | (refine Need.mk ⟨by first | (simp; omega) | (simp; done) | fail, by first | (simp; omega) | (simp; done) | fail⟩ ?_)
  | fail)
    all_goals rfl
  · repeat' ((conv => whnf); first
  | (refine sq_keep ?_)
  | (refine Br.yes ?_)
  | (refine Br.no ?_)
  | (refine Br.decT (by assumption) ?_)
  | (refine Br.decF (by assumption) ?_)
  | (refine Br.decF (by omega) ?_)
  | (refine Br.decT (by omega) ?_)
  | (refine Br.dec (fun h => ?_) (fun h => ?_))
  | (refine Br.eqT (by assumption) ?_)
  | (refine Br.eqF (by assumption) ?_)
  | (refine Br.neT (by assumption) ?_)
  | (refine Br.neF (by assumption) ?_)
  | (refine Br.eqT (by omega) ?_)
  | (refine Br.eqF (by omega) ?_)
  | (refine Br.neT (by omega) ?_)
  | (refine Br.neF (by omega) ?_)
  | (refine Br.eqI (fun h => ?_) (fun h => ?_))
  | (refine Br.neI (fun h => ?_) (fun h => ?_))
  | (refine Br.sT (by assumption) ?_)
  | (refine Br.sF (by assumption) ?_)
  | (refine Br.snT (by assumption) ?_)
  | (refine Br.snF (by assumption) ?_)
  | (refine Br.eqS (fun h => ?_) (fun h => ?_))
  | (refine Br.neS (fun h => ?_) (fun h => ?_))
  | (refine Br.not ?_)
  | (refine Br.anyT (by assumption) ?_)
  | (refine Br.anyF (by assumption) ?_)
  | (refine Br.any (fun h => ?_) (fun h => ?_))
  | (refine Ex1.b64 ?_)
  | (refine Ex1.b64add (by omega) (by omega) ?_)
  | (refine Ex1.b8 ?_)
  | (refine Ex1.i64 (by omega) (by omega) ?_)
  | (refine Ex1.u8 (by omega) (by omega) ?_)
  | (refine Ex1.i32 (by omega) (by omega) ?_)
  | (refine Ex1.u64 (by omega) (by omega) ?_)
  | (refine Need.mk ⟨rfl, rfl⟩ ?_)
  | (refine Need.mk rfl ?_)
  | (refine Need.mk ⟨rfl, rfl, Nat.le_refl _⟩ ?_)
  | (refine Got.by _ (bytesD_enc _) ?_)
  | (refine Need.mk (by omega) ?_)
  | (refine Got.by _ rfl ?_)
  | (refine Need.mk (by first | (simp; omega) | (simp; done) | fail) ?_)
  | (refine Need.mk ⟨rfl, rfl, by first | (simp; omega) | (simp; done) | fail⟩ ?_)
  | (refine Need.mk ⟨rfl, by first | (simp; omega) | (simp; done) | fail⟩ ?_)
  | (refine Need.mk ⟨by first | (simp; omega) | (simp; done) | fail, by first | (simp; omega) | (simp; done) | fail⟩ ?_)
  | fail)
    refine iw_loop (σ := Nat × List (List UInt8)) (fun p => p.1 ≤ s.length + 1 ∧ p.2.length ≤ p.1 ∧ (p.1 ≤ s.length → wst s p.1 = (-1, p.2)) ∧ (p.1 = s.length + 1 → p.2 = wordsL s)) (fun p => s.length + 1 - p.1)
      (fun p => [(0, .str s), (3, .ref 0 p.2.length), (4, .int .i64 p.1)]) (fun p => [.slice 1 9 (wordsD p.2)]) (0, [])
      ⟨by omega, by simp, fun _ => rfl, fun h => by simp at h⟩ (Weak.of ⟨rfl, rfl, rfl, trivial⟩ rfl) ?_
    rintro ⟨i, out⟩ ⟨i1, i2, i3, i4⟩ K2 hK2
    simp only at i1 i2 i3 i4
    change iw Try.prog 0 _ _ (tm [(0, .str s), (3, .ref 0 out.length), (4, .int .i64 i)]) [.slice 1 9 (wordsD out)]
    have hwl : (wordsD out).length = out.length := List.length_map _
    repeat' ((conv => whnf); first
      | (refine sq_keep ?_)
      | (refine Br.yes ?_)
      | (refine Br.no ?_)
      | (refine Br.decT (by assumption) ?_)
      | (refine Br.decF (by assumption) ?_)
      | (refine Br.decF (by omega) ?_)
      | (refine Br.decT (by omega) ?_)
      | (refine Br.dec (fun h => ?_) (fun h => ?_))
      | (refine Br.eqT (by assumption) ?_)
      | (refine Br.eqF (by assumption) ?_)
      | (refine Br.neT (by assumption) ?_)
      | (refine Br.neF (by assumption) ?_)
      | (refine Br.eqT (by omega) ?_)
      | (refine Br.eqF (by omega) ?_)
      | (refine Br.neT (by omega) ?_)
      | (refine Br.neF (by omega) ?_)
      | (refine Br.eqI (fun h => ?_) (fun h => ?_))
      | (refine Br.neI (fun h => ?_) (fun h => ?_))
      | (refine Br.sT (by assumption) ?_)
      | (refine Br.sF (by assumption) ?_)
      | (refine Br.snT (by assumption) ?_)
      | (refine Br.snF (by assumption) ?_)
      | (refine Br.eqS (fun h => ?_) (fun h => ?_))
      | (refine Br.neS (fun h => ?_) (fun h => ?_))
      | (refine Br.not ?_)
      | (refine Br.anyT (by assumption) ?_)
      | (refine Br.anyF (by assumption) ?_)
      | (refine Br.any (fun h => ?_) (fun h => ?_))
      | (refine Ex1.b64 ?_)
      | (refine Ex1.b64add (by omega) (by omega) ?_)
      | (refine Ex1.b8 ?_)
      | (refine Ex1.i64 (by omega) (by omega) ?_)
      | (refine Ex1.u8 (by omega) (by omega) ?_)
      | (refine Ex1.i32 (by omega) (by omega) ?_)
      | (refine Ex1.u64 (by omega) (by omega) ?_)
      | (refine Need.mk ⟨rfl, rfl⟩ ?_)
      | (refine Need.mk rfl ?_)
      | (refine Need.mk ⟨rfl, rfl, Nat.le_refl _⟩ ?_)
      | (refine Got.by _ (bytesD_enc _) ?_)
      | (refine Need.mk (by omega) ?_)
      | (refine Got.by _ rfl ?_)
      | (refine Need.mk (by first | (simp; omega) | (simp; done) | fail) ?_)
      | (refine Need.mk ⟨rfl, rfl, by first | (simp; omega) | (simp; done) | fail⟩ ?_)
      | (refine Need.mk ⟨rfl, by first | (simp; omega) | (simp; done) | fail⟩ ?_)
      | (refine Need.mk ⟨by first | (simp; omega) | (simp; done) | fail, by first | (simp; omega) | (simp; done) | fail⟩ ?_)
      | fail)
    · have hil : i < s.length := by omega
      refine iw_loop (σ := Nat) (fun j => i ≤ j ∧ j ≤ s.length ∧ ∀ k, i ≤ k → k < j → s.getD k 0 ≠ 32) (fun j => s.length - j)
        (fun j => [(0, .str s), (3, .ref 0 out.length), (4, .int .i64 i), (5, .int .i64 j)]) (fun j => [.slice 1 9 (wordsD out)]) i
        ⟨by omega, by omega, fun k a b => by omega⟩ (Weak.of ⟨rfl, rfl, rfl, rfl, trivial⟩ rfl) ?_
      rintro j ⟨j1, j2, j3⟩ K3 hK3
      have fin : ∀ t1 h1, (j < s.length → s.getD j 0 = 32) → Weak 0 t1 h1 (tm [(0, .str s), (3, .ref 0 (addW s i j out).length), (4, .int .i64 ((j + 1 : Nat) : Int))]) [.slice 1 9 (wordsD (addW s i j out))] → K2 t1 h1 := by
        intro t1 h1 hj hw
        refine hK2 (j + 1, addW s i j out) (by show s.length + 1 - (j + 1) < s.length + 1 - i; omega) ⟨by show j + 1 ≤ _; omega, ?_, fun h => ?_, fun h => ?_⟩ _ _ hw
        · show (addW s i j out).length ≤ j + 1
          unfold addW
          split
          · rw [List.length_append]; show out.length + 1 ≤ j + 1; omega
          · omega
        · have h : j + 1 ≤ s.length := h
          exact wst_next (i3 (by omega)) j1 j3 (hj (by omega))
        · have h : j + 1 = s.length + 1 := h
          have : j = s.length := by omega
          subst this
          exact (words_end (i3 (by omega)) (by omega) j3).symm
      repeat' ((conv => whnf); first
        | (refine Need.mk ⟨rfl, rfl, hwl⟩ ?_)
        | (refine Need.mk ⟨by show (out.length + 1) * 16 ≤ 140737488355328; omega, by show out.length + 1 ≤ 4611686018427387904; omega⟩ ?_)
        | (refine sq_keep ?_)
        | (refine Br.yes ?_)
        | (refine Br.no ?_)
        | (refine Br.decT (by assumption) ?_)
        | (refine Br.decF (by assumption) ?_)
        | (refine Br.decF (by omega) ?_)
        | (refine Br.decT (by omega) ?_)
        | (refine Br.dec (fun h => ?_) (fun h => ?_))
        | (refine Br.eqT (by assumption) ?_)
        | (refine Br.eqF (by assumption) ?_)
        | (refine Br.neT (by assumption) ?_)
        | (refine Br.neF (by assumption) ?_)
        | (refine Br.eqT (by omega) ?_)
        | (refine Br.eqF (by omega) ?_)
        | (refine Br.neT (by omega) ?_)
        | (refine Br.neF (by omega) ?_)
        | (refine Br.eqI (fun h => ?_) (fun h => ?_))
        | (refine Br.neI (fun h => ?_) (fun h => ?_))
        | (refine Br.sT (by assumption) ?_)
        | (refine Br.sF (by assumption) ?_)
        | (refine Br.snT (by assumption) ?_)
        | (refine Br.snF (by assumption) ?_)
        | (refine Br.eqS (fun h => ?_) (fun h => ?_))
        | (refine Br.neS (fun h => ?_) (fun h => ?_))
        | (refine Br.not ?_)
        | (refine Br.anyT (by assumption) ?_)
        | (refine Br.anyF (by assumption) ?_)
        | (refine Br.any (fun h => ?_) (fun h => ?_))
        | (refine Ex1.b64 ?_)
        | (refine Ex1.b64add (by omega) (by omega) ?_)
        | (refine Ex1.b8 ?_)
        | (refine Ex1.i64 (by omega) (by omega) ?_)
        | (refine Ex1.u8 (by omega) (by omega) ?_)
        | (refine Ex1.i32 (by omega) (by omega) ?_)
        | (refine Ex1.u64 (by omega) (by omega) ?_)
        | (refine Need.mk ⟨rfl, rfl⟩ ?_)
        | (refine Need.mk rfl ?_)
        | (refine Need.mk ⟨rfl, rfl, Nat.le_refl _⟩ ?_)
        | (refine Got.by _ (bytesD_enc _) ?_)
        | (refine Need.mk (by omega) ?_)
        | (refine Got.by _ rfl ?_)
        | (refine Need.mk (by first | (simp; omega) | (simp; done) | fail) ?_)
        | (refine Need.mk ⟨rfl, rfl, by first | (simp; omega) | (simp; done) | fail⟩ ?_)
        | (refine Need.mk ⟨rfl, by first | (simp; omega) | (simp; done) | fail⟩ ?_)
        | (refine Need.mk ⟨by first | (simp; omega) | (simp; done) | fail, by first | (simp; omega) | (simp; done) | fail⟩ ?_)
        | fail)
      all_goals conv => whnf
      · have hne : s.getD j 0 ≠ 32 := u8_ne (y := 32) h
        refine hK3 (j + 1) (by omega) ⟨by omega, by omega, fun k a b => ?_⟩ _ _ (Weak.of ⟨rfl, rfl, rfl, rfl, trivial⟩ rfl)
        by_cases hk : k = j
        · subst hk; exact hne
        · exact j3 k a (by omega)
      · have hij : i < j := by omega
        have hj32 : s.getD j 0 = 32 := u8_int (y := 32) ‹((s.getD ((j : Int)).toNat 0).toNat : Int) = 32›
        refine fin _ _ (fun _ => hj32) (Weak.cut' (g := [.slice 1 9 [D.str ((s.drop i).take (j - i))]]) ⟨rfl, ?_, rfl, trivial⟩ ?_ (by simp) (by simp) (by simp; exact Bd.wordsD _ _))
        · rw [addW, if_pos hij]; show some (D.ref 0 (out.length + 1)) = some (D.ref 0 (out ++ [_]).length); simp
        · rw [addW, if_pos hij]
          show [Blk.slice 1 9 (wordsD out ++ [D.str ((s.drop i).take (j - i))]), .slice 1 9 [D.str ((s.drop i).take (j - i))]] = _
          simp [wordsD]
      · have hij : ¬ i < j := by omega
        have hj32 : s.getD j 0 = 32 := u8_int (y := 32) ‹((s.getD ((j : Int)).toNat 0).toNat : Int) = 32›
        exact fin _ _ (fun _ => hj32) (Weak.of ⟨rfl, by rw [addW, if_neg hij]; rfl, rfl, trivial⟩ (by rw [addW, if_neg hij]))
      · have hij : i < j := by omega
        have hjl : ¬ j < s.length := by omega
        refine fin _ _ (fun x => absurd x hjl) (Weak.cut' (g := [.slice 1 9 [D.str ((s.drop i).take (j - i))]]) ⟨rfl, ?_, rfl, trivial⟩ ?_ (by simp) (by simp) (by simp; exact Bd.wordsD _ _))
        · rw [addW, if_pos hij]; show some (D.ref 0 (out.length + 1)) = some (D.ref 0 (out ++ [_]).length); simp
        · rw [addW, if_pos hij]
          show [Blk.slice 1 9 (wordsD out ++ [D.str ((s.drop i).take (j - i))]), .slice 1 9 [D.str ((s.drop i).take (j - i))]] = _
          simp [wordsD]
    · conv => whnf
      have e : out = wordsL s := by
        by_cases hi : i = s.length + 1
        · exact i4 hi
        · have hi' : i = s.length := by omega
          have := words_end (i3 (by omega)) (by omega) (fun k a b => by omega)
          rw [this, addW, if_neg (by omega)]
      subst e
      refine hK trivial _ _ (Weak.trans (Weak.of (l := [(3, .ref 0 (wordsL s).length)]) ⟨rfl, trivial⟩ rfl) (Weak.trans (Weak.sealed (esz := 1) (ty := 9) rfl hwl) ?_))
      exact Weak.cut' (g := [.dead]) ⟨rfl, trivial⟩ rfl (by simp) (by simp; exact Bd.wordsD _ _) (by simp)

theorem bd_words (s : List UInt8) : Bd 0 (.list (wordsD (wordsL s))) := Bd.list_iff.2 (Bd.wordsD _ _)
theorem words_length (s : List UInt8) : (wordsD (wordsL s)).length ≤ s.length + 1 := by
  have := (wst_bound s s.length).2.2
  rw [wordsD, List.length_map, wordsL]
  split
  · rw [List.length_append]; show _ + 1 ≤ _; omega
  · omega

def wordR (s : List UInt8) (i : Int) : List UInt8 := if placeB i (wordsL s).length = true then (wordsL s).getD (placeI i (wordsL s).length).toNat [] else []
def wordC (s : List UInt8) (i : Int) : Int := if placeB i (wordsL s).length = true then 0 else 1

theorem wordsD_get (l : List (List UInt8)) {k : Nat} (h : k < l.length) : (wordsD l)[k]? = some (.str (l.getD k [])) := by simp [wordsD, h]

end Go.Proofs.Ytamckclacocifaa
