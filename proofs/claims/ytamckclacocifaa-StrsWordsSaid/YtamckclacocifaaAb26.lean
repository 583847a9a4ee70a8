/- The small code's demands are enough: each operation; regions; code; contracts out of it. -/
import Derived.Test.YtamckclacocifaaAb25
namespace Go.Ab

section
variable {P : Program} {t : Tm} {h : List Blk}

theorem iop_ev {op : Op} {io : IOp} {dr : Bool} {K : Option D → List Blk → Prop} (hc : calleeOf op = none) (hr : rop P dr op = some io) (hi : iop P io K t h) : ∃ x h', EvC P op (get t) h x h' ∧ K x h' := by
  unfold rop at hr
  split at hr
  · obtain ⟨a, ha, hr⟩ := bs hr; cases hr
    obtain ⟨d, hd, hK⟩ := onS_some hi
    exact evC_r (by simp [cls]) ⟨d, by simp only [evR, rx_get ha, hd], hK⟩
  · obtain ⟨a, ha, hr⟩ := bs hr; cases hr
    obtain ⟨d, hd, hK⟩ := onS_some hi
    exact evC_r (by simp [cls]) ⟨d, by simp only [evR, rx_get ha, hd], hK⟩
  · obtain ⟨a, ha, hr⟩ := bs hr; obtain ⟨b, hb, hr⟩ := bs hr; obtain ⟨c, hc', hr⟩ := bs hr; cases hr
    simp only [iop] at hi
    split at hi
    · rename_i p hp
      cases p with
      | true =>
        obtain ⟨d, hd, hK⟩ := onS_some (hi.t rfl)
        exact evC_r (by simp [cls]) ⟨d, by simp only [evR, rx_get ha, hp, if_true, rx_get hb, hd], hK⟩
      | false =>
        obtain ⟨d, hd, hK⟩ := onS_some (hi.f rfl)
        exact evC_r (by simp [cls]) ⟨d, by simp only [evR, rx_get ha, hp, Bool.false_eq_true, if_false, rx_get hc', hd], hK⟩
    · exact hi.elim
  · obtain ⟨pl, hpl, hr⟩ := bs hr; obtain ⟨z, hz, hr⟩ := bs hr
    split at hr
    · rename_i zs
      obtain ⟨l, hl, hr⟩ := bs hr; cases hr
      obtain ⟨ps, hps, hi⟩ := onS_some hi
      obtain ⟨cs, hcs, hK⟩ := onS_some hi
      exact evC_r (by simp [cls]) ⟨_, by simp only [evR, rxP_get _ _ hl, hps, buildD, hpl, hz, hcs], hK⟩
    · cases hr
  · obtain ⟨ti, hti, hr⟩ := bs hr; obtain ⟨a, ha, hr⟩ := bs hr; cases hr
    obtain ⟨d, hd, hi⟩ := onS_some hi
    obtain ⟨r, hr', hK⟩ := ild_sound hti hi
    exact evC_r (by simp [cls]) ⟨r, by simp only [evR, rx_get ha, hd, hr'], hK⟩
  · obtain ⟨a, ha, hr⟩ := bs hr; cases hr
    obtain ⟨d, hd, hi⟩ := onS_some hi
    obtain ⟨hn, hK⟩ := onB_some hi
    exact evC_r (by simp [cls]) ⟨d, by simp only [evR, rx_get ha, hd, hn, if_true], hK⟩
  · obtain ⟨a, ha, hr⟩ := bs hr; obtain ⟨b, hb, hr⟩ := bs hr; cases hr
    obtain ⟨x, y, hx, hy, hi⟩ := ix2_some hi
    obtain ⟨d, hd, hK⟩ := ibin_sound hi
    exact evC_r (by simp [cls]) ⟨d, by simp only [evR, rx_get ha, rx_get hb, hx, hy, hd], hK⟩
  · obtain ⟨a, ha, hr⟩ := bs hr; cases hr
    obtain ⟨x, hx, hi⟩ := onS_some hi
    obtain ⟨d, hd, hK⟩ := iun_sound hi
    exact evC_r (by simp [cls]) ⟨d, by simp only [evR, rx_get ha, hx, hd], hK⟩
  · -- conversions
    rename_i sT dT xO
    obtain ⟨a, ha, hr⟩ := bs hr
    split at hr
    · rename_i e ti he
      obtain ⟨u, hu, hr⟩ := bs hr; cases hr
      have hu := okIf_some hu
      simp only [Bool.and_eq_true] at hu
      simp only [iop] at hi
      split at hi
      · rename_i s hs
        refine evC_w (by simp [cls, he]) ⟨_, _, ?_, hi⟩
        simp only [evW, rx_get ha, hs, bytesOfD, he, hu, and_self, if_true]
      · exact hi.elim
    · rename_i hne
      have hcl : cls P (Op.convert sT dT xO) ≤ 1 := by simp only [cls, hne]; simp
      split at hr
      · rename_i k hk
        obtain ⟨u, hu, hr⟩ := bs hr; cases hr
        have hu := okIf_some hu
        simp only [iop] at hi
        split at hi
        · rename_i k' n hn
          obtain ⟨c, rfl, hK⟩ := hi
          obtain ⟨uu, huu⟩ := Option.isSome_iff_exists.1 hu
          exact evC_r hcl ⟨_, by simp only [evR, rx_get ha, hn, convR, convP, huu, hk], hK⟩
        · exact hi.elim
      · split at hr
        · rename_i hs
          obtain ⟨u, hu, hr⟩ := bs hr; cases hr
          have hu := okIf_some hu
          simp only [iop] at hi
          split at hi
          · rename_i s hn
            exact evC_r hcl ⟨_, by simp only [evR, rx_get ha, hn, convR, convP, hs, hu, Bool.and_self, if_true], hi⟩
          · exact hi.elim
        · obtain ⟨u, hu, hr⟩ := bs hr; cases hr
          have hu := okIf_some hu
          simp only [Bool.and_eq_true] at hu
          obtain ⟨x, hx, hi⟩ := onS_some hi
          obtain ⟨d, hd, hK⟩ := ib2s_sound hu.1 hu.2 hi
          exact evC_r hcl ⟨d, by simp only [evR, rx_get ha, hx, hd], hK⟩
  · -- slices
    rename_i tT xO loO hiO mxO
    obtain ⟨a, ha, hr⟩ := bs hr; obtain ⟨l, hl, hr⟩ := bs hr; obtain ⟨r, hr', hr⟩ := bs hr; obtain ⟨m, hm, hr⟩ := bs hr
    split at hr
    · rename_i n ti hat
      obtain ⟨u, hu, hr⟩ := bs hr; cases hr
      have hu := okIf_some hu
      simp only [Bool.and_eq_true, beq_iff_eq] at hu
      simp only [iop] at hi
      split at hi
      · rename_i id off hx
        split at hi
        · rename_i cs hb
          obtain ⟨dl, hdl, hi⟩ := onS_some hi
          obtain ⟨dr', hdr, hi⟩ := onS_some hi
          obtain ⟨hfit, hi⟩ := hi
          obtain ⟨b1, hb1, hi⟩ := ibnd_sound hi
          obtain ⟨a1, ha1, hK⟩ := ibnd_sound hi
          cases mxO with
          | some q => cases hu.2
          | none =>
            refine evC_w (by simp [cls, hat]) ⟨_, _, ?_, hK⟩
            simp only [evW, rx_get ha, hx, rxO_get hl, rxO_get hr', hdl, hdr, arrSliceD, hat, hb, hu.1, hfit, and_self, if_true, hb1, ha1]
        · exact hi.elim
      · exact hi.elim
    · rename_i hne
      have hcl : cls P (Op.slice tT xO loO hiO mxO) ≤ 1 := by simp only [cls, hne]; simp
      split at hr
      · rename_i hs
        obtain ⟨u, hu, hr⟩ := bs hr; cases hr
        have hu := okIf_some hu
        simp only [iop] at hi
        split at hi
        · rename_i s hx
          obtain ⟨dl, hdl, hi⟩ := onS_some hi
          obtain ⟨dr', hdr, hi⟩ := onS_some hi
          obtain ⟨b1, hb1, hi⟩ := ibnd_sound hi
          obtain ⟨a1, ha1, hK⟩ := ibnd_sound hi
          have hmn : mxO = none := by cases mxO with | none => rfl | some _ => cases hu
          subst hmn
          have hmo : optG (get t) none = some none := rfl
          exact evC_r hcl ⟨_, by simp only [evR, rx_get ha, hx, rxO_get hl, rxO_get hr', hmo, hdl, hdr, sliceD, hs, Option.isNone_none, and_self, if_true, hb1, ha1], hK⟩
        · exact hi.elim
      · obtain ⟨q, hq, hr⟩ := bs hr; cases hr
        simp only [iop] at hi
        split at hi
        · rename_i xs hx
          obtain ⟨dl, hdl, hi⟩ := onS_some hi
          obtain ⟨dr', hdr, hi⟩ := onS_some hi
          obtain ⟨dm, hdm, hi⟩ := onS_some hi
          obtain ⟨hb, hi⟩ := hi
          obtain ⟨c1, hc1, hi⟩ := ibnd_sound hi
          obtain ⟨b1, hb1, hi⟩ := ibnd_sound hi
          obtain ⟨a1, ha1, hK⟩ := ibnd_sound hi
          obtain ⟨e, ti⟩ := q
          refine evC_r hcl ⟨_, ?_, hK⟩
          simp only [evR, rx_get ha, hx, rxO_get hl, rxO_get hr', rxO_get hm, hdl, hdr, hdm, sliceD, hq]
          rw [if_pos hb]
          simp only [hc1, hb1, ha1]
        · exact hi.elim
  · obtain ⟨q, hq, hr⟩ := bs hr; obtain ⟨a, ha, hr⟩ := bs hr; obtain ⟨u, hu, hr⟩ := bs hr; cases hr
    have hu := okIf_some hu
    simp only [Bool.not_eq_true', beq_eq_false_iff_ne] at hu
    obtain ⟨x, hx, hi⟩ := onS_some hi
    obtain ⟨d, hd, hK⟩ := onS_some hi
    obtain ⟨o, i⟩ := q
    exact evC_r (by simp [cls]) ⟨d, by simp only [evR, rx_get ha, hx, fieldAddrD, hq]; rw [if_neg hu]; exact hd, hK⟩
  · obtain ⟨q, hq, hr⟩ := bs hr; obtain ⟨a, ha, hr⟩ := bs hr; cases hr
    simp only [iop] at hi
    split at hi
    · rename_i cs hx
      obtain ⟨d, hd, hK⟩ := onS_some hi
      obtain ⟨o, i⟩ := q
      exact evC_r (by simp [cls]) ⟨d, by simp only [evR, rx_get ha, hx, fieldD, hq, hd], hK⟩
    · exact hi.elim
  · obtain ⟨a, ha, hr⟩ := bs hr; obtain ⟨b, hb, hr⟩ := bs hr
    split at hr
    · rename_i q hq
      cases hr
      obtain ⟨x, y, hx, hy, hi⟩ := ix2_some hi
      obtain ⟨e, ti⟩ := q
      obtain ⟨d, hd, hK⟩ := iidx_sound hq hi
      exact evC_r (by simp [cls]) ⟨d, by simp only [evR, rx_get ha, rx_get hb, hx, hy, hd], hK⟩
    · obtain ⟨q, hq, hr⟩ := bs hr; cases hr
      simp only [iop] at hi
      split at hi
      · rename_i k n hn
        obtain ⟨hbd, hi⟩ := hi
        obtain ⟨x, hx, hi⟩ := onS_some hi
        obtain ⟨d, hd, hK⟩ := onS_some hi
        obtain ⟨len, ti⟩ := q
        refine evC_r (by simp [cls]) ⟨d, ?_, hK⟩
        simp only [evR, rx_get ha, rx_get hb, hx, hn, indexAddrD]
        cases x <;> simp only [movD] at hd <;> first
          | (cases hd; done)
          | (simp only [hq]; rw [if_pos hbd]; exact hd)
      · exact hi.elim
  · obtain ⟨a, ha, hr⟩ := bs hr; obtain ⟨b, hb, hr⟩ := bs hr
    split at hr
    · rename_i hs
      cases hr
      simp only [iop] at hi
      split at hi
      · rename_i s k n hx hy
        exact evC_r (by simp [cls]) ⟨_, by simp only [evR, rx_get ha, rx_get hb, hx, hy, indexD]; rw [if_pos ⟨hs, hi.1⟩], hi.2⟩
      · exact hi.elim
    · obtain ⟨q, hq, hr⟩ := bs hr; cases hr
      simp only [iop] at hi
      split at hi
      · rename_i cs k n hx hy
        obtain ⟨hbd, d, hd, hK⟩ := hi
        obtain ⟨len, ti⟩ := q
        exact evC_r (by simp [cls]) ⟨d, by simp only [evR, rx_get ha, rx_get hb, hx, hy, indexD, hq]; rw [if_pos hbd]; exact hd, hK⟩
      · exact hi.elim
  · obtain ⟨a, ha, hr⟩ := bs hr; cases hr
    simp only [iop] at hi
    split at hi
    · rename_i ds hx
      obtain ⟨d, hd, hK⟩ := onS_some hi
      exact evC_r (by simp [cls]) ⟨d, by simp only [evR, rx_get ha, hx, extractD, hd], hK⟩
    · exact hi.elim
  · obtain ⟨a, ha, hr⟩ := bs hr; obtain ⟨u, hu, hr⟩ := bs hr; cases hr
    have hu := okIf_some hu
    obtain ⟨x, hx, hK⟩ := onS_some hi
    exact evC_r (by simp [cls]) ⟨_, by simp only [evR, rx_get ha, hx, hu, if_true], hK⟩
  · obtain ⟨a, ha, hr⟩ := bs hr; obtain ⟨b, hb, hr⟩ := bs hr; cases hr
    obtain ⟨x, hx, hi⟩ := onS_some hi
    obtain ⟨y, hy, hK⟩ := onS_some hi
    exact evC_r (by simp [cls]) ⟨_, by simp only [evR, rxL_get _ _ ha, rxL_get _ _ hb, hx, hy], hK⟩
  · obtain ⟨ti, hti, hr⟩ := bs hr; obtain ⟨a, ha, hr⟩ := bs hr; obtain ⟨b, hb, hr⟩ := bs hr; cases hr
    obtain ⟨x, y, hx, hy, hi⟩ := ix2_some hi
    obtain ⟨h', hs, hK⟩ := ist_sound hti hi
    exact evC_w (by simp [cls]) ⟨_, _, by simp only [evW, rx_get ha, rx_get hb, hx, hy, hs], hK⟩
  · obtain ⟨z, hz, hr⟩ := bs hr; obtain ⟨u, hu, hr⟩ := bs hr; cases hr
    have hu := okIf_some hu
    exact evC_w (by simp [cls]) ⟨_, _, by simp only [evW, hz, hu, if_true], hi⟩
  · obtain ⟨a, ha, hr⟩ := bs hr; cases hr
    obtain ⟨x, hx, hi⟩ := onS_some hi
    obtain ⟨hg, hK⟩ := onB_some hi
    exact evC_w (by simp [cls]) ⟨_, _, by simp only [evW, rx_get ha, hx, hg, if_true], hK⟩
  · obtain ⟨q, hq, hr⟩ := bs hr; obtain ⟨l, hl, hr⟩ := bs hr; obtain ⟨u, hu, hr⟩ := bs hr; cases hr
    have hu := okIf_some hu
    simp only [Bool.and_eq_true, decide_eq_true_eq] at hu
    obtain ⟨e, i, z⟩ := q
    simp only [iop] at hi
    obtain ⟨ds, hds, hi⟩ := onS_some hi
    obtain ⟨hg, ⟨ds', h'⟩, hseal, hsz, hK⟩ := hi
    obtain ⟨ps, hps, p1, p2⟩ := rdP_split l ds hds
    refine evC_w (by simp [cls]) ⟨_, _, ?_, hK⟩
    simp only [evW, rxP_get _ _ hl, hps, buildSliceD, hq]
    rw [if_pos ⟨by rw [p1]; exact hu.1, hu.2, by rw [p2]; exact hg⟩]
    simp only [p2, hseal, hsz, if_true]
  · obtain ⟨q, hq, hr⟩ := bs hr; obtain ⟨a, ha, hr⟩ := bs hr; obtain ⟨b, hb, hr⟩ := bs hr; cases hr
    obtain ⟨e, i, z⟩ := q
    simp only [iop] at hi
    split at hi
    · rename_i k n k' m hx hy
      refine evC_w (by simp [cls]) ⟨_, _, ?_, hi.2⟩
      simp only [evW, rx_get ha, rx_get hb, hx, hy, makeSliceD, hq]
      rw [if_pos hi.1]
    · exact hi.elim
  · obtain ⟨a, ha, hr⟩ := bs hr; obtain ⟨u, hu, hr⟩ := bs hr; cases hr
    have hu := okIf_some hu
    simp only [iop] at hi
    split at hi
    · rename_i s hx
      exact evC_w (by simp [cls]) ⟨_, _, by simp only [evW, rx_get ha, hx, hu, if_true], hi⟩
    · exact hi.elim
  · obtain ⟨a, ha, hr⟩ := bs hr; cases hr
    simp only [iop] at hi
    split at hi
    · rename_i id hx
      split at hi
      · rename_i s pos hb
        by_cases hp : pos < s.length
        · exact evC_w (by simp [cls]) ⟨_, _, by simp only [evW, rx_get ha, hx, nextD, hb, hp, if_true], hi.1 (decide_eq_true hp)⟩
        · exact evC_w (by simp [cls]) ⟨_, _, by simp only [evW, rx_get ha, hx, nextD, hb, hp, if_false], hi.2 (decide_eq_false hp)⟩
      · exact hi.elim
    · exact hi.elim
  · cases hc
  · split at hr
    · rename_i x ty hargs hts
      obtain ⟨a, ha, hr⟩ := bs hr
      split at hr
      · rename_i hs
        cases hr
        simp only [iop] at hi
        split at hi
        · rename_i s hx
          exact evC_r (by simp [cls]) ⟨_, by simp only [evR, hargs, mapG, rx_get ha, hx, evB, hts, lenD, hs, if_true], hi⟩
        · exact hi.elim
      · obtain ⟨q, hq, hr⟩ := bs hr; cases hr
        obtain ⟨d, hd, hi⟩ := onS_some hi
        obtain ⟨r, hr', hK⟩ := ilen_sound hq hi
        exact evC_r (by simp [cls]) ⟨r, by simp only [evR, hargs, mapG, rx_get ha, hd, evB, hts, hr'], hK⟩
    · cases hr
  · split at hr
    · rename_i x y hargs
      obtain ⟨a, ha, hr⟩ := bs hr; obtain ⟨b, hb, hr⟩ := bs hr; cases hr
      obtain ⟨p, q, hp, hq, hi⟩ := ix2_some hi
      obtain ⟨r, hr', hK⟩ := imin_sound hi
      exact evC_r (by simp [cls]) ⟨r, by simp only [evR, hargs, mapG, rx_get ha, rx_get hb, hp, hq, evB, hr'], hK⟩
    · cases hr
  · split at hr
    · rename_i x y hargs
      obtain ⟨a, ha, hr⟩ := bs hr; obtain ⟨b, hb, hr⟩ := bs hr; cases hr
      obtain ⟨p, q, hp, hq, hi⟩ := ix2_some hi
      obtain ⟨r, hr', hK⟩ := imax_sound hi
      exact evC_r (by simp [cls]) ⟨r, by simp only [evR, hargs, mapG, rx_get ha, rx_get hb, hp, hq, evB, hr'], hK⟩
    · cases hr
  · split at hr
    · rename_i s x ty xt hargs hts
      obtain ⟨q, hq, hr⟩ := bs hr; obtain ⟨a, ha, hr⟩ := bs hr; obtain ⟨b, hb, hr⟩ := bs hr; obtain ⟨u, hu, hr⟩ := bs hr; cases hr
      have hu := okIf_some hu
      obtain ⟨e, i, z⟩ := q
      simp only [iop] at hi
      obtain ⟨p, r, hp, hr', hi⟩ := ix2_some hi
      obtain ⟨d, h', hd, hK⟩ := iapp_sound hq hu hi
      exact evC_w (by simp [cls]) ⟨_, _, by simp only [evW, hargs, hts, mapG, rx_get ha, rx_get hb, hp, hr', hd], hK⟩
    · cases hr
  · cases hr

end
end Go.Ab
