/- The law of the texts: the walk. -/
import Derived.Test.YthonjbaeadbhdaaDoorTagsRefText
import Derived.Test.YthonjbaeadbhdaaDoorTagsTextsPure
import Derived.Test.YthonjbaeadbhdaaDoorTagsLives
import Derived.Test.YthonjbaeadbhdaaDoorTagsGrown
namespace Go.Proofs.YthonjbaeadbhdaaDoor
open Go.RowKit

theorem same_is2 {t u : Tg.Tree} {b : Bool} (hb : Tg.sameT t u = b) (x y : Value) (w : World) (ht : TreeR AnyB w t x) (hu : TreeR AnyB w u y) : Calls Tryd.prog 17 #[x, y] w (BoolPost w b) := hb ▸ same_top t u x y w ht hu
theorem chk_is {t : Tg.Tree} {n : Int} (hn : (Tg.check t : Int) = n) (x : Value) (w : World) (ht : TreeR AnyB w t x) : Calls Tryd.prog 18 #[x] w (IntPost w n) := hn ▸ check_any t x w ht
theorem ref_is {t : Tg.Tree} {tx : List UInt8} {n : Nat} (hx : Tg.text t = tx) (hn : (Tg.flat t).length = n) (hp : Tg.plain t = true) (hc : Tg.cnt t ≤ 40) (hl : tx.length ≤ 1000000) (v : Value) (w : World) (hv : NodesR w v (Tg.flat t)) (htab : Tab w) :
    Calls Tryd.prog 15 #[v, .int .i64 (0 : Nat)] w (RefPost w tx n) := by
  subst hx
  subst hn
  have hv' := hv
  obtain ⟨a, c, rfl, -, -⟩ := hv'
  have h := refText_any (sz t) t a c (Tg.flat t) [] 0 w (Nat.le_refl _) hp hv (by simp) (by rw [Tg.flat_len]; omega) htab hl
  rw [Nat.zero_add, ← Tg.flat_len] at h
  exact h
/-- What stays: the tree in its variable. -/
structure TW (w : World) (tb : Nat) (t : Tg.Tree) (ta : Option Addr) (tc : Nat) (tp : Option Addr) (tq : Nat) (wr : World) : Prop where
  below : Below w.heap.size w wr
  ht : wr.heap[tb]? = some (.cells #[.int .u8 t.cls, .int .u32 t.tag, .bool t.built, .slice ta t.val.length tc, .slice tp t.parts.length tq] 36)
  tr : TreeR AnyB wr t (.agg #[.int .u8 t.cls, .int .u32 t.tag, .bool t.built, .slice ta t.val.length tc, .slice tp t.parts.length tq])
  env : Env wr
theorem TW.step {w wr ws : World} {tb : Nat} {t : Tg.Tree} {ta : Option Addr} {tc : Nat} {tp : Option Addr} {tq : Nat} (h : TW w tb t ta tc tp tq wr) (hb : Below wr.heap.size wr ws) : TW w tb t ta tc tp tq ws :=
  ⟨below_step h.below hb, (hb.block _ (lt_of_block h.ht)).trans h.ht, h.tr.at_ hb, h.env.below hb⟩

set_option maxRecDepth 100000 in
set_option maxHeartbeats 2000000 in
theorem texts_law (ns : List Tg.N) (a : Option Addr) (c : Nat) (s : List UInt8) (w : World) (hn : NsR w a ns) (hnl : ns.length ≤ lim) (hs : s.length ≤ 9223372036854775807) (henv : Env w) :
    Calls Tryd.prog 4 #[.slice a ns.length c, .string ⟨s.toArray⟩] w (BoolPost w true) := by
  have HN := Lib.hid hn
  have HE := Lib.hid henv
  have HNL := Lib.hid hnl
  have hsz : (⟨s.toArray⟩ : ByteArray).size = s.length := by simp [ByteArray.size]
  clear hn henv
  go_enter Tryd.func4, Tryd.ntmps4
  go_wp2_with fail
  refine (big_any ns a c _ HN.out HNL.out).mono ?_
  rintro e w1 ⟨hw, b1, rfl⟩
  subst hw
  cases b1 with
  | true =>
    go_wp2_with fail
    refine (lives_any _ HE.out).mono ?_
    rintro e w2 ⟨rfl, hb2⟩
    go_wp2_with fail
    go_ret
    exact ⟨rfl, hb2⟩
  | false =>
  by_cases h200 : 200 < s.length
  · go_wp2_with fail
    refine (lives_any _ HE.out).mono ?_
    rintro e w2 ⟨rfl, hb2⟩
    go_wp2_with fail
    go_ret
    exact ⟨rfl, hb2⟩
  go_wp2_with fail
  refine (of_any ns a c _ HNL.out HN.out).mono ?_
  rintro e w2 ⟨x2, rfl, hb2, ht2⟩
  obtain ⟨t, ht⟩ : ∃ t, t = Tg.ofT ns := ⟨_, rfl⟩
  have HOK := Lib.hid (ht ▸ Tg.ofT_ok ns)
  rw [← ht] at ht2
  obtain ⟨ta, tc, tp, tq, rfl⟩ := ht2.form
  clear ht
  obtain ⟨o1, o2, o3, o4, o5⟩ := HOK.out
  obtain ⟨tx, htx⟩ : ∃ l, l = Tg.text t := ⟨_, rfl⟩
  have htl : tx.length ≤ 25920 := by
    have := Tg.text_wt t o5
    rw [htx]
    omega
  have F1 := Lib.hid (show Tg.textT t = tx by rw [htx]; simp [Tg.textT, o1])
  have F2 := Lib.hid (show Tg.parseT tx = (t, 0) by rw [htx]; exact Tg.text_parse o1 o5 o3 o2 o4)
  have F3 := Lib.hid (show Tg.sameT t t = true by simp [Tg.sameT, o1, Tg.same_refl])
  obtain ⟨n, hnn⟩ : ∃ n, (Tg.flat t).length = n := ⟨_, rfl⟩
  have HTX := Lib.hid htx
  have HNN := Lib.hid hnn
  have HO := Lib.hid (And.intro o5 o2)
  clear o1 o2 o3 o4 o5 HOK htx hnn
  obtain ⟨tb, htb⟩ : ∃ n, n = w2.heap.size := ⟨_, rfl⟩
  go_upto_region 4 with (fail)
  generalize hw3 : World.alloc w2 _ = w3
  have HT3 := Lib.hid (show TW w tb t ta tc tp tq w3 from
    ⟨by rw [← hw3]; exact below_step hb2 (below_new _), by rw [← hw3, htb]; exact alloc_new _ _, by rw [← hw3]; exact ht2.at_ (below_new _), by rw [← hw3]; exact HE.out.below (below_step hb2 (below_new _))⟩)
  rw [← htb]
  clear hw3 htb hb2 ht2
  obtain ⟨t0, t1, t2, t3, t4⟩ := five_cells HT3.out.ht
  go_wp2_with fail
  refine (txt_is F1.out (by rw [← HTX.out]; omega) _ w3 HT3.out.tr HT3.out.env.1).mono ?_
  rintro e w4 ⟨rfl, hb4⟩
  have HT4 := Lib.hid (HT3.out.step hb4)
  clear hb4 t0 t1 t2 t3 t4 HT3
  go_wp2_with fail
  refine (prs_is F2.out w4 HT4.out.env (by unfold lim; omega)).mono ?_
  rintro e w5 ⟨x5, rfl, hb5, ht5⟩
  change TreeR _ _ t _ at ht5
  obtain ⟨pa, pc, pp, pq, rfl⟩ := ht5.form
  obtain ⟨pb, hpb⟩ : ∃ n, n = w5.heap.size := ⟨_, rfl⟩
  go_upto_region 6 with (fail)
  generalize hw6 : World.alloc w5 _ = w6
  have hb56 : Below w5.heap.size w5 w6 := by rw [← hw6]; exact below_new _
  have HT6 := Lib.hid ((HT4.out.step hb5).step hb56)
  have HP6 := Lib.hid (show w6.heap[pb]? = some (.cells #[.int .u8 t.cls, .int .u32 t.tag, .bool t.built, .slice pa t.val.length pc, .slice pp t.parts.length pq] 36) by rw [← hw6, hpb]; exact alloc_new _ _)
  have HQ6 := Lib.hid (ht5.at_ hb56)
  rw [← hpb]
  clear hw6 hpb hb56 hb5 ht5 HT4
  obtain ⟨t0, t1, t2, t3, t4⟩ := five_cells HT6.out.ht
  go_wp2_with fail
  refine (flat_any 1024 t _ w6 (by have := HO.out.2; omega) (Nat.le_refl _) HT6.out.tr).mono ?_
  rintro e w7 ⟨v7, r7, rfl, hr7, hb7, -⟩
  have HV7 := Lib.hid (FlatPost.nodes (w := w6) hr7)
  have HT7 := Lib.hid (HT6.out.step hb7)
  have HP7 := Lib.hid ((hb7.block _ (lt_of_block HP6.out)).trans HP6.out)
  have HQ7 := Lib.hid (HQ6.out.at_ hb7)
  clear hb7 hr7 t0 t1 t2 t3 t4 HT6 HP6 HQ6
  go_wp2_with fail
  refine (ref_is (HTX.out.symm) HNN.out HO.out.1 HO.out.2 (by omega) v7 w7 HV7.out HT7.out.env.1).mono ?_
  rintro e w8 ⟨rfl, hb8⟩
  have HT8 := Lib.hid (HT7.out.step hb8)
  have HP8 := Lib.hid ((hb8.block _ (lt_of_block HP7.out)).trans HP7.out)
  have HQ8 := Lib.hid (HQ7.out.at_ hb8)
  clear hb8 HT7 HP7 HQ7 HV7
  obtain ⟨t0, t1, t2, t3, t4⟩ := five_cells HT8.out.ht
  go_wp2_with fail
  refine (flat_any 1024 t _ w8 (by have := HO.out.2; omega) (Nat.le_refl _) HT8.out.tr).mono ?_
  rintro e w9 ⟨v9, r9, rfl, hr9, hb9, -⟩
  obtain ⟨a9, c9, rfl, -, -⟩ := FlatPost.nodes (w := w8) hr9
  have HT9 := Lib.hid (HT8.out.step hb9)
  have HP9 := Lib.hid ((hb9.block _ (lt_of_block HP8.out)).trans HP8.out)
  have HQ9 := Lib.hid (HQ8.out.at_ hb9)
  clear hb9 hr9 t0 t1 t2 t3 t4 HT8 HP8 HQ8
  obtain ⟨t0, t1, t2, t3, t4⟩ := five_cells HT9.out.ht
  obtain ⟨p0, p1, p2, p3, p4⟩ := five_cells HP9.out
  rw [HNN.out]
  go_wp2_with fail
  refine (same_is2 F3.out _ _ w9 HQ9.out HT9.out.tr).mono ?_
  rintro e w10 ⟨rfl, hb10⟩
  have HT10 := Lib.hid (HT9.out.step hb10)
  clear hb10 t0 t1 t2 t3 t4 p0 p1 p2 p3 p4 HT9 HP9 HQ9
  rcases Tg.parse_cases s (by omega) with ⟨u, hpu, hcu, htu⟩ | hpu
  · have HTU := Lib.hid htu
    have HCU := Lib.hid hcu
    have HPU := Lib.hid hpu
    clear htu hcu hpu
    go_wp2_with fail
    refine (prs_is HPU.out w10 HT10.out.env (by unfold lim; omega)).mono ?_
    rintro e w11 ⟨x11, rfl, hb11, ht11⟩
    change TreeR _ _ u _ at ht11
    obtain ⟨ua, uc, up, uq, rfl⟩ := ht11.form
    obtain ⟨ub, hub⟩ : ∃ n, n = w11.heap.size := ⟨_, rfl⟩
    go_upto_region 10 with (fail)
    generalize hw12 : World.alloc w11 _ = w12
    have HU12 := Lib.hid (show TW w ub u ua uc up uq w12 from
      ⟨by rw [← hw12]; exact below_step (below_step HT10.out.below hb11) (below_new _), by rw [← hw12, hub]; exact alloc_new _ _, by rw [← hw12]; exact ht11.at_ (below_new _), by rw [← hw12]; exact HT10.out.env.below (below_step hb11 (below_new _))⟩)
    rw [← hub]
    clear hw12 hub hb11 ht11
    obtain ⟨u0, u1, u2, u3, u4⟩ := five_cells HU12.out.ht
    go_wp2_with fail
    refine (chk_is (n := 0) (by rw [HCU.out]; rfl) _ w12 HU12.out.tr).mono ?_
    rintro e w13 ⟨rfl, hb13⟩
    have HU13 := Lib.hid (HU12.out.step hb13)
    clear hb13 u0 u1 u2 u3 u4 HU12
    obtain ⟨u0, u1, u2, u3, u4⟩ := five_cells HU13.out.ht
    go_wp2_with fail
    refine (txt_is (r := s) (by rw [Tg.textT, if_pos HCU.out, HTU.out]) (by rw [HTU.out]; omega) _ w13 HU13.out.tr HU13.out.env.1).mono ?_
    rintro e w14 ⟨rfl, hb14⟩
    have HBEL := Lib.hid (below_step HU13.out.below hb14)
    have HENV := Lib.hid (HU13.out.env.below hb14)
    clear hb14 u0 u1 u2 u3 u4 HU13
    go_wp2_with fail
    refine (lives_any _ HENV.out).mono ?_
    rintro e wz ⟨rfl, hbz⟩
    have HBZ := Lib.hid (below_step HBEL.out hbz)
    clear hbz
    go_wp2_with fail
    go_ret
    exact ⟨rfl, HBZ.out⟩
  · have HPU := Lib.hid hpu
    clear hpu
    go_wp2_with fail
    refine (prs_is HPU.out w10 HT10.out.env (by unfold lim; omega)).mono ?_
    rintro e w11 ⟨x11, rfl, hb11, ht11⟩
    change TreeR _ _ (.mk 0 0 false [] []) _ at ht11
    obtain ⟨ua, uc, up, uq, rfl⟩ := ht11.form
    obtain ⟨ub, hub⟩ : ∃ n, n = w11.heap.size := ⟨_, rfl⟩
    go_upto_region 10 with (fail)
    generalize hw12 : World.alloc w11 _ = w12
    have HBEL := Lib.hid (show Below w.heap.size w w12 by rw [← hw12]; exact below_step (below_step HT10.out.below hb11) (below_new _))
    have HENV := Lib.hid (show Env w12 by rw [← hw12]; exact HT10.out.env.below (below_step hb11 (below_new _)))
    have HU12 := Lib.hid (show w12.heap[ub]? = some (.cells #[.int .u8 (0 : Nat), .int .u32 (0 : Nat), .bool false, .slice ua (0 : Nat) uc, .slice up (0 : Nat) uq] 36) by rw [← hw12, hub]; exact alloc_new _ _)
    rw [← hub]
    clear hw12 hub hb11 ht11
    obtain ⟨u0, u1, u2, u3, u4⟩ := five_cells HU12.out
    go_wp2_with fail
    refine (lives_any _ HENV.out).mono ?_
    rintro e wz ⟨rfl, hbz⟩
    have HBZ := Lib.hid (below_step HBEL.out hbz)
    clear hbz
    go_wp2_with fail
    go_ret
    exact ⟨rfl, HBZ.out⟩
end Go.Proofs.YthonjbaeadbhdaaDoor
