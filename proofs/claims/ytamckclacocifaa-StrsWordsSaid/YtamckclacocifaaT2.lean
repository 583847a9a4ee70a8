import Derived.Test.YtamckclacocifaaT1
namespace Go.Proofs.Ytamckclacocifaa
open Go.Ab

/-- The first i elements changed. -/
def mixed {β : Type} (f : β → β) (s : List β) (i : Nat) : List β := (s.take i).map f ++ s.drop i

section
variable {β : Type} {f : β → β} {s : List β} {i : Nat}
theorem mixed_zero : mixed f s 0 = s := by simp [mixed]
theorem mixed_all (h : s.length ≤ i) : mixed f s i = s.map f := by simp [mixed, List.take_of_length_le h, List.drop_of_length_le h]
theorem mixed_length (h : i ≤ s.length) : (mixed f s i).length = s.length := by simp [mixed]; omega
theorem mixed_get (h : i < s.length) : (mixed f s i)[i]? = some s[i] := by
  simp only [mixed]
  rw [List.getElem?_append_right (by simp; omega)]
  simp [h, show min i s.length = i by omega]
theorem mixed_set (h : i < s.length) : (mixed f s i).set i (f s[i]) = mixed f s (i + 1) := by
  simp only [mixed]
  have e : (s.drop i).set 0 (f s[i]) = f s[i] :: s.drop (i + 1) := by rw [List.drop_eq_getElem_cons h]; rfl
  rw [List.set_append_right _ _ (by simp; omega), List.take_add_one, List.map_append]
  simp [-List.map_take, h, show min i s.length = i by omega, e]
theorem mixed_same (h : i < s.length) (hf : f s[i] = s[i]) : mixed f s i = mixed f s (i + 1) := by
  simp only [mixed]
  rw [List.take_add_one, List.drop_eq_getElem_cons h, List.map_append]
  simp [-List.map_take, h, hf]
end

def flip (lo hi : UInt8) (b : UInt8) : UInt8 := if lo ≤ b ∧ b ≤ hi then b ^^^ 32 else b

theorem bitI_xor8 (a b : UInt8) : ((a ^^^ b).toNat : Int) = bitI .u8 (· ^^^ ·) a.toNat b.toNat := by
  simp only [bitI]
  rw [IntKind.wrap_u8]
  have h := (a ^^^ b).toNat_lt
  have e : (BitVec.ofInt IntKind.u8.bits (a.toNat : Int) ^^^ BitVec.ofInt IntKind.u8.bits (b.toNat : Int)).toNat = (a ^^^ b).toNat := by
    have h1 : BitVec.ofInt IntKind.u8.bits (a.toNat : Int) = a.toBitVec := by
      apply BitVec.eq_of_toNat_eq; simp [IntKind.bits]
    have h2 : BitVec.ofInt IntKind.u8.bits (b.toNat : Int) = b.toBitVec := by
      apply BitVec.eq_of_toNat_eq; simp [IntKind.bits]
    rw [h1, h2]; rfl
  rw [e]; omega

theorem ps36 (s : List UInt8) (lo hi : UInt8) (hs : s.length ≤ 1000000) : PSpec Try.prog 36 [.str s, encB lo, encB hi] (.str (s.map (flip lo hi))) := by
  refine PSpec.of_iw fac36 (by simp) ?_
  refine iw_seq1 True [(0, .str s), (1, encB lo), (2, encB hi)] [] (fun _ => ?_) fun K hK => hK trivial _ _ (Weak.of ⟨rfl, rfl, rfl, trivial⟩ rfl)
  refine iw_seq1 True [(0, .str s), (1, encB lo), (2, encB hi), (7, .ref 0 s.length)] [.slice 1 5 (s.map encB)] (fun _ => ?_) fun K hK => hK trivial _ _ (Weak.of ⟨rfl, rfl, rfl, rfl, trivial⟩ rfl)
  refine iw_seq1 True [(7, .ref 0 s.length)] [.slice 1 5 ((s.map (flip lo hi)).map encB)] (fun _ => ?_) fun K hK => ?_
  · repeat' ((conv => whnf); first
  | (refine sq_keep ?_)
  | (refine Br.yes ?_)
  | (refine Br.no ?_)
  | (refine Br.decT (by assumption) ?_)
  | (refine Br.decF (by assumption) ?_)
  | (refine Br.decF (by omega) ?_)
  | (refine Br.decT (by omega) ?_)
  | (refine Br.dec (fun h => ?_) (fun h => ?_))
  | (refine Br.eqT (by assumption) ?_)
  | (refine Br.eqF (by assumption) ?_)
  | (refine Br.neT (by assumption) ?_)
  | (refine Br.neF (by assumption) ?_)
  | (refine Br.eqT (by omega) ?_)
  | (refine Br.eqF (by omega) ?_)
  | (refine Br.neT (by omega) ?_)
  | (refine Br.neF (by omega) ?_)
  | (refine Br.eqI (fun h => ?_) (fun h => ?_))
  | (refine Br.neI (fun h => ?_) (fun h => ?_))
  | (refine Br.sT (by assumption) ?_)
  | (refine Br.sF (by assumption) ?_)
  | (refine Br.snT (by assumption) ?_)
  | (refine Br.snF (by assumption) ?_)
  | (refine Br.eqS (fun h => ?_) (fun h => ?_))
  | (refine Br.neS (fun h => ?_) (fun h => ?_))
  | (refine Br.not ?_)
  | (refine Br.anyT (by assumption) ?_)
  | (refine Br.anyF (by assumption) ?_)
  | (refine Br.any (fun h => ?_) (fun h => ?_))
  | (refine Ex1.b64 ?_)
  | (refine Ex1.b64add (by omega) (by omega) ?_)
  | (refine Ex1.b8 ?_)
  | (refine Ex1.i64 (by omega) (by omega) ?_)
  | (refine Ex1.u8 (by omega) (by omega) ?_)
  | (refine Ex1.i32 (by omega) (by omega) ?_)
  | (refine Ex1.u64 (by omega) (by omega) ?_)
  | (refine Need.mk ⟨rfl, rfl⟩ ?_)
  | (refine Need.mk rfl ?_)
  | (refine Need.mk ⟨rfl, rfl, Nat.le_refl _⟩ ?_)
  | (refine Got.by _ (bytesD_enc _) ?_)
  | (refine Need.mk (by omega) ?_)
  | (refine Got.by _ rfl ?_)
  | (refine Need.mk (by first | (simp; omega) | (simp; done) | fail) ?_)
  | (refine Need.mk ⟨rfl, rfl, by first | (simp; omega) | (simp; done) | fail⟩ ?_)
  | (refine Need.mk ⟨rfl, by first | (simp; omega) | (simp; done) | fail⟩ ?_)
  | (refine Need.mk ⟨by first | (simp; omega) | (simp; done) | fail, by first | (simp; omega) | (simp; done) | fail⟩ ?_)
  | fail)
    all_goals rfl
  · repeat' ((conv => whnf); first
  | (refine sq_keep ?_)
  | (refine Br.yes ?_)
  | (refine Br.no ?_)
  | (refine Br.decT (by assumption) ?_)
  | (refine Br.decF (by assumption) ?_)
  | (refine Br.decF (by omega) ?_)
  | (refine Br.decT (by omega) ?_)
  | (refine Br.dec (fun h => ?_) (fun h => ?_))
  | (refine Br.eqT (by assumption) ?_)
  | (refine Br.eqF (by assumption) ?_)
  | (refine Br.neT (by assumption) ?_)
  | (refine Br.neF (by assumption) ?_)
  | (refine Br.eqT (by omega) ?_)
  | (refine Br.eqF (by omega) ?_)
  | (refine Br.neT (by omega) ?_)
  | (refine Br.neF (by omega) ?_)
  | (refine Br.eqI (fun h => ?_) (fun h => ?_))
  | (refine Br.neI (fun h => ?_) (fun h => ?_))
  | (refine Br.sT (by assumption) ?_)
  | (refine Br.sF (by assumption) ?_)
  | (refine Br.snT (by assumption) ?_)
  | (refine Br.snF (by assumption) ?_)
  | (refine Br.eqS (fun h => ?_) (fun h => ?_))
  | (refine Br.neS (fun h => ?_) (fun h => ?_))
  | (refine Br.not ?_)
  | (refine Br.anyT (by assumption) ?_)
  | (refine Br.anyF (by assumption) ?_)
  | (refine Br.any (fun h => ?_) (fun h => ?_))
  | (refine Ex1.b64 ?_)
  | (refine Ex1.b64add (by omega) (by omega) ?_)
  | (refine Ex1.b8 ?_)
  | (refine Ex1.i64 (by omega) (by omega) ?_)
  | (refine Ex1.u8 (by omega) (by omega) ?_)
  | (refine Ex1.i32 (by omega) (by omega) ?_)
  | (refine Ex1.u64 (by omega) (by omega) ?_)
  | (refine Need.mk ⟨rfl, rfl⟩ ?_)
  | (refine Need.mk rfl ?_)
  | (refine Need.mk ⟨rfl, rfl, Nat.le_refl _⟩ ?_)
  | (refine Got.by _ (bytesD_enc _) ?_)
  | (refine Need.mk (by omega) ?_)
  | (refine Got.by _ rfl ?_)
  | (refine Need.mk (by first | (simp; omega) | (simp; done) | fail) ?_)
  | (refine Need.mk ⟨rfl, rfl, by first | (simp; omega) | (simp; done) | fail⟩ ?_)
  | (refine Need.mk ⟨rfl, by first | (simp; omega) | (simp; done) | fail⟩ ?_)
  | (refine Need.mk ⟨by first | (simp; omega) | (simp; done) | fail, by first | (simp; omega) | (simp; done) | fail⟩ ?_)
  | fail)
    refine iw_loop (σ := Nat) (fun i => i ≤ s.length) (fun i => s.length - i) (fun i => [(1, encB lo), (2, encB hi), (7, .ref 0 s.length), (12, .ref 0 s.length), (13, .int .i64 s.length), (14, .int .i64 i)]) (fun i => [.slice 1 5 ((mixed (flip lo hi) s i).map encB)]) 0
      (by omega) (Weak.of ⟨rfl, rfl, rfl, rfl, rfl, rfl, trivial⟩ (by rw [mixed_zero])) fun i hil K2 hK2 => ?_
    have hl : ((mixed (flip lo hi) s i).map encB).length = s.length := by rw [List.length_map, mixed_length hil]
    repeat' ((conv => whnf); first
      | (refine Ex1.by ((s[i]'(by omega) ^^^ 32).toNat : Int) (bitI_xor8 _ 32) ?_)
      | (refine Need.mk ⟨rfl, hl⟩ ?_)
      | (refine Need.mk ⟨by omega, by rw [hl]; omega⟩ ?_)
      | (refine Got.by (encB (s[i]'(by omega))) (by show (List.map encB _)[i]? = _; rw [List.getElem?_map, mixed_get (by omega)]; rfl) ?_)
      | (refine sq_keep ?_)
      | (refine Br.yes ?_)
      | (refine Br.no ?_)
      | (refine Br.decT (by assumption) ?_)
      | (refine Br.decF (by assumption) ?_)
      | (refine Br.decF (by omega) ?_)
      | (refine Br.decT (by omega) ?_)
      | (refine Br.dec (fun h => ?_) (fun h => ?_))
      | (refine Br.eqT (by assumption) ?_)
      | (refine Br.eqF (by assumption) ?_)
      | (refine Br.neT (by assumption) ?_)
      | (refine Br.neF (by assumption) ?_)
      | (refine Br.eqT (by omega) ?_)
      | (refine Br.eqF (by omega) ?_)
      | (refine Br.neT (by omega) ?_)
      | (refine Br.neF (by omega) ?_)
      | (refine Br.eqI (fun h => ?_) (fun h => ?_))
      | (refine Br.neI (fun h => ?_) (fun h => ?_))
      | (refine Br.sT (by assumption) ?_)
      | (refine Br.sF (by assumption) ?_)
      | (refine Br.snT (by assumption) ?_)
      | (refine Br.snF (by assumption) ?_)
      | (refine Br.eqS (fun h => ?_) (fun h => ?_))
      | (refine Br.neS (fun h => ?_) (fun h => ?_))
      | (refine Br.not ?_)
      | (refine Br.anyT (by assumption) ?_)
      | (refine Br.anyF (by assumption) ?_)
      | (refine Br.any (fun h => ?_) (fun h => ?_))
      | (refine Ex1.b64 ?_)
      | (refine Ex1.b64add (by omega) (by omega) ?_)
      | (refine Ex1.b8 ?_)
      | (refine Ex1.i64 (by omega) (by omega) ?_)
      | (refine Ex1.u8 (by omega) (by omega) ?_)
      | (refine Ex1.i32 (by omega) (by omega) ?_)
      | (refine Ex1.u64 (by omega) (by omega) ?_)
      | (refine Need.mk ⟨rfl, rfl⟩ ?_)
      | (refine Need.mk rfl ?_)
      | (refine Need.mk ⟨rfl, rfl, Nat.le_refl _⟩ ?_)
      | (refine Got.by _ (bytesD_enc _) ?_)
      | (refine Need.mk (by omega) ?_)
      | (refine Got.by _ rfl ?_)
      | (refine Need.mk (by first | (simp; omega) | (simp; done) | fail) ?_)
      | (refine Need.mk ⟨rfl, rfl, by first | (simp; omega) | (simp; done) | fail⟩ ?_)
      | (refine Need.mk ⟨rfl, by first | (simp; omega) | (simp; done) | fail⟩ ?_)
      | (refine Need.mk ⟨by first | (simp; omega) | (simp; done) | fail, by first | (simp; omega) | (simp; done) | fail⟩ ?_)
      | fail)
    all_goals conv => whnf
    · refine hK2 (i + 1) (by omega) (by omega) _ _ (Weak.of ⟨rfl, rfl, rfl, rfl, rfl, rfl, trivial⟩ ?_)
      show [Blk.slice 1 5 (((mixed (flip lo hi) s i).map encB).set i (encB (s[i]'(by omega) ^^^ 32)))] = _
      have e : flip lo hi (s[i]'(by omega)) = s[i]'(by omega) ^^^ 32 := by rw [flip, if_pos (by simp only [UInt8.le_iff_toNat_le]; omega)]
      rw [← List.map_set, ← e, mixed_set (by omega)]
    · refine hK2 (i + 1) (by omega) (by omega) _ _ (Weak.of ⟨rfl, rfl, rfl, rfl, rfl, rfl, trivial⟩ ?_)
      rw [mixed_same (by omega)]
      rw [flip, if_neg (by simp only [UInt8.le_iff_toNat_le]; omega)]
    · refine hK2 (i + 1) (by omega) (by omega) _ _ (Weak.of ⟨rfl, rfl, rfl, rfl, rfl, rfl, trivial⟩ ?_)
      rw [mixed_same (by omega)]
      rw [flip, if_neg (by simp only [UInt8.le_iff_toNat_le]; omega)]
    · exact hK trivial _ _ (Weak.of ⟨rfl, trivial⟩ (by rw [mixed_all (by omega)]))

end Go.Proofs.Ytamckclacocifaa
