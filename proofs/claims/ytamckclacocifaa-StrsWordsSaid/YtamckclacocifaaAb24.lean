/- The small code out of the program's, and that what it asks is enough: the operations' parts. -/
import Derived.Test.YtamckclacocifaaAb23
namespace Go.Ab

section
variable {P : Program}

theorem onB_some {b : Bool} {p : Prop} (h : onB b p) : b = true ∧ p := by
  cases b
  · exact h.elim
  · exact ⟨rfl, h⟩

theorem onS_some {β : Type} {x : Option β} {p : β → Prop} (h : onS x p) : ∃ v, x = some v ∧ p v := by
  cases x with
  | none => exact h.elim
  | some v => exact ⟨v, rfl, h⟩

theorem ikEq_eq {k k' : IntKind} (h : ikEq k k' = true) : k = k' := by
  cases k <;> cases k' <;> first | rfl | cases h

theorem iint_sound {op : BinOp} {k k' : IntKind} {a b : Int} {K : D → Prop} (h : iint op k a k' b K) : ∃ d, binI op k a k' b = some d ∧ K d := by
  cases op <;> simp only [iint] at h <;> simp only [binI]
  case shl => obtain ⟨h0, c, rfl, hK⟩ := h; exact ⟨_, by rw [if_neg (by omega)], hK⟩
  case shr => obtain ⟨h0, c, rfl, hK⟩ := h; exact ⟨_, by rw [if_neg (by omega)], hK⟩
  case quo =>
    obtain ⟨hk, h0, c, rfl, hK⟩ := onB_some h
    exact ⟨_, by rw [if_pos (ikEq_eq hk), if_neg h0], hK⟩
  case rem =>
    obtain ⟨hk, h0, c, rfl, hK⟩ := onB_some h
    exact ⟨_, by rw [if_pos (ikEq_eq hk), if_neg h0], hK⟩
  case eql => obtain ⟨hk, hK⟩ := onB_some h; exact ⟨_, by rw [if_pos (ikEq_eq hk)], hK⟩
  case neq => obtain ⟨hk, hK⟩ := onB_some h; exact ⟨_, by rw [if_pos (ikEq_eq hk)], hK⟩
  case lss => obtain ⟨hk, hK⟩ := onB_some h; exact ⟨_, by rw [if_pos (ikEq_eq hk)], hK⟩
  case leq => obtain ⟨hk, hK⟩ := onB_some h; exact ⟨_, by rw [if_pos (ikEq_eq hk)], hK⟩
  case gtr => obtain ⟨hk, hK⟩ := onB_some h; exact ⟨_, by rw [if_pos (ikEq_eq hk)], hK⟩
  case geq => obtain ⟨hk, hK⟩ := onB_some h; exact ⟨_, by rw [if_pos (ikEq_eq hk)], hK⟩
  all_goals
    obtain ⟨hk, c, rfl, hK⟩ := onB_some h
    exact ⟨_, by rw [if_pos (ikEq_eq hk)], hK⟩

theorem istr_sound {op : BinOp} {a b : List UInt8} {K : D → Prop} (h : istr op a b K) : ∃ d, binS op a b = some d ∧ K d := by
  cases op <;> simp only [istr] at h <;> simp only [binS]
  case add => exact ⟨_, by rw [if_pos h.1], h.2⟩
  all_goals first
    | exact h.elim
    | exact ⟨_, rfl, h⟩

theorem ibin_sound {op : BinOp} {t : TypeId} {x y : D} {K : D → Prop} (h : ibin op (isBoolT P t) x y K) : ∃ d, binD P op t x y = some d ∧ K d := by
  unfold ibin at h
  unfold binD
  split at h
  · exact iint_sound h
  · exact istr_sound h
  · obtain ⟨hb, h⟩ := onB_some h
    obtain ⟨d, hd, hK⟩ := onS_some h
    exact ⟨d, by simp only [hb, if_true]; exact hd, hK⟩
  · exact h.elim

theorem iun_sound {op : UnOp} {x : D} {K : D → Prop} (h : iun op x K) : ∃ d, unD op x = some d ∧ K d := by
  unfold iun at h
  unfold unD
  split at h
  · cases op <;> simp only at h
    case neg => obtain ⟨c, rfl, hK⟩ := h; exact ⟨_, rfl, hK⟩
    case xor => obtain ⟨c, rfl, hK⟩ := h; exact ⟨_, rfl, hK⟩
  · cases op <;> simp only at h
    case not => exact ⟨_, rfl, h⟩
  · exact h.elim

theorem isrc_sound {x : D} {h : List Blk} {K : List D → Prop} (hi : isrc x h K) : ∃ xs, srcD x h = some xs ∧ K xs := by
  unfold isrc at hi
  unfold srcD
  split at hi
  · exact ⟨_, rfl, hi⟩
  · exact ⟨_, rfl, hi⟩
  · exact ⟨_, rfl, hi⟩
  · split at hi
    · rename_i xs hb
      simp only [hb]
      exact ⟨xs, by rw [if_pos hi.1], hi.2⟩
    · exact hi.elim
  · exact hi.elim

theorem iidx_sound {t : TypeId} {e : TypeId} {ti : TI} (he : eltOf P t = some (e, ti)) {x i : D} {h : List Blk} {K : D → Prop} (hi : iidx ti.size x i h K) : ∃ d, indexAddrD P t x i h = some d ∧ K d := by
  unfold iidx at hi
  unfold indexAddrD
  split at hi
  · split at hi
    · obtain ⟨hb, y, hy, hsz, hK⟩ := hi
      exact ⟨_, by simp only [he]; rw [if_pos hb]; simp only [hy]; rw [if_pos hsz], hK⟩
    · split at hi
      · rename_i hblk
        obtain ⟨hs, hb, hK⟩ := hi
        exact ⟨_, by simp only [he, hblk]; rw [if_pos ⟨hs.1.symm, hs.2⟩, if_pos hb], hK⟩
      · exact hi.elim
    · exact hi.elim
  · exact hi.elim

theorem ibnd_sound {d : Option D} {dflt up : Nat} {K : Nat → Prop} (h : ibnd d dflt up K) : ∃ r, bnd d dflt up = some r ∧ K r := by
  unfold ibnd at h
  unfold bnd
  split at h
  · exact ⟨_, rfl, h⟩
  · exact ⟨_, by simp only [h.1, and_self, if_true], h.2⟩
  · exact h.elim

theorem ild_sound {t : TypeId} {ti : TI} (ht : tiOf P t = some ti) {x : D} {h : List Blk} {K : D → Prop} (hi : ild ti x h K) : ∃ d, loadD P t x h = some d ∧ K d := by
  unfold ild at hi
  unfold loadD
  simp only [ht]
  split at hi
  · obtain ⟨d, hd, hK⟩ := onS_some hi; exact ⟨d, hd, hK⟩
  · split at hi
    · rename_i hb
      obtain ⟨d, hd, hK⟩ := onS_some hi
      exact ⟨d, by simp only [hb]; exact hd, hK⟩
    · exact hi.elim
  · split at hi
    · rename_i hb
      obtain ⟨hs, y, hy, hi⟩ := hi
      obtain ⟨d, hd, hK⟩ := onS_some hi
      exact ⟨d, by simp only [hb]; rw [if_pos hs]; simp only [hy]; exact hd, hK⟩
    · exact hi.elim
  · exact hi.elim

theorem ist_sound {t : TypeId} {ti : TI} (ht : tiOf P t = some ti) {a x : D} {h : List Blk} {K : List Blk → Prop} (hi : ist ti a x h K) : ∃ h', storeD P t a x h = some h' ∧ K h' := by
  unfold ist at hi
  unfold storeD
  simp only [ht]
  split at hi
  · split at hi
    · rename_i hb
      obtain ⟨⟨g1, g2, g3⟩, hK⟩ := hi
      exact ⟨_, by rw [if_pos ⟨g1, g2⟩]; simp only [hb]; rw [if_pos g3], hK⟩
    · exact hi.elim
  · split at hi
    · rename_i hb
      obtain ⟨hs, y, hy, ⟨g1, g2, g3⟩, hK⟩ := hi
      exact ⟨_, by rw [if_pos ⟨g1, g2⟩]; simp only [hb]; rw [if_pos hs]; simp only [hy]; rw [if_pos g3], hK⟩
    · exact hi.elim
  · exact hi.elim

theorem ilen_sound {t : TypeId} {r : TypeId × TI} (he : eltOf P t = some r) {x : D} {K : D → Prop} (h : ilen x K) : ∃ d, lenD P t x = some d ∧ K d := by
  unfold ilen at h
  unfold lenD
  split at h <;> first
    | exact h.elim
    | (simp only [he]; exact ⟨_, rfl, h⟩)

theorem ib2s_sound {src dst : TypeId} (h1 : isBytesT P src = true) (h2 : isStrT P dst = true) {x : D} {h : List Blk} {K : D → Prop} (hi : ib2s x h K) : ∃ d, convR P src dst x h = some d ∧ K d := by
  unfold ib2s at hi
  unfold convR
  split at hi
  · obtain ⟨l, hl, hK⟩ := hi
    exact ⟨_, by simp only [h1, h2, and_self, if_true, hl], hK⟩
  · split at hi
    · rename_i hb
      obtain ⟨hn, l, hl, hK⟩ := hi
      exact ⟨_, by simp only [hb]; rw [if_pos ⟨h1, h2, hn⟩]; simp only [hl], hK⟩
    · exact hi.elim
  · exact hi.elim

theorem ix2_some {x y : Option D} {K : D → D → Prop} (h : ix2 x y K) : ∃ a b, x = some a ∧ y = some b ∧ K a b := by
  cases x with
  | none => exact h.elim
  | some a =>
    cases y with
    | none => exact h.elim
    | some b => exact ⟨a, b, rfl, rfl, h⟩

theorem imin_sound {x y : D} {K : D → Prop} (h : imin x y K) : ∃ d, minD [x, y] = some d ∧ K d := by
  unfold imin at h
  unfold minD
  split at h
  · obtain ⟨hk, hK⟩ := onB_some h
    exact ⟨_, by simp only []; rw [if_pos (ikEq_eq hk)], hK⟩
  · exact h.elim

theorem imax_sound {x y : D} {K : D → Prop} (h : imax x y K) : ∃ d, maxD [x, y] = some d ∧ K d := by
  unfold imax at h
  unfold maxD
  split at h
  · obtain ⟨hk, hK⟩ := onB_some h
    exact ⟨_, by simp only []; rw [if_pos (ikEq_eq hk)], hK⟩
  · exact h.elim

theorem iapp_sound {t xt e : TypeId} {i : TI} {z : D} (hr : rowOf P t = some (e, i, z)) (hx : isSrcT P xt = true) {s x : D} {h : List Blk} {K : D → List Blk → Prop} (hi : iapp e i.size i.bytes s x h K) : ∃ d h', appendD P t xt s x h = some (d, h') ∧ K d h' := by
  unfold iapp at hi
  obtain ⟨ys, hys, hs, hi⟩ := isrc_sound hi
  unfold appendD
  simp only [hr]
  rw [if_pos hx]
  simp only [hys]
  rw [if_pos hs]
  split at hi
  · exact ⟨_, _, by simp only []; rw [if_pos hi.1], hi.2⟩
  · split at hi
    · rename_i hb
      obtain ⟨⟨q1, q2, q3⟩, ⟨q4, q5⟩, hK⟩ := hi
      exact ⟨_, _, by simp only [hb]; rw [if_pos ⟨q1, q2, q3, q4, q5⟩], hK⟩
    · exact hi.elim
  · exact hi.elim

end
end Go.Ab
