/- The law of the codes: the walk. -/
import Derived.Test.YthonjbaeadbhdaaDoorTagsFindsLaw
import Derived.Test.YthonjbaeadbhdaaDoorTagsCodesPure
import Derived.Test.YthonjbaeadbhdaaDoorTagsCanon
namespace Go.Proofs.YthonjbaeadbhdaaDoor
open Go.RowKit

theorem first_is {b : List UInt8} {r : Tg.Tree × Nat × Nat} (hr : Tg.firstT b = r) (v : Value) (w : World) (h : BytesR AnyB w v b) : Calls Tryd.prog 20 #[v] w (FirstPost w r) := hr ▸ first_any v b w h
theorem dec_is {b : List UInt8} {r : Tg.Tree × Nat} (hr : Tg.decT b = r) (v : Value) (w : World) (h : BytesR AnyB w v b) : Calls Tryd.prog 21 #[v] w (DecPost w r) := hr ▸ decode_any v b w h
/-- What stays: the tree in its variable, its bytes, what follows. -/
structure CW (w : World) (tb : Nat) (t : Tg.Tree) (ta : Option Addr) (tc : Nat) (tp : Option Addr) (tq : Nat) (b : List UInt8) (ba : Option Addr) (more : List UInt8) (mv : Value) (wr : World) : Prop where
  below : Below w.heap.size w wr
  ht : wr.heap[tb]? = some (five t ta tc tp tq)
  tr : TreeR AnyB wr t (aggT t ta tc tp tq)
  br : BytesR AnyB wr (.slice ba b.length b.length) b
  mr : BytesR AnyB wr mv more
  env : Env wr
theorem CW.step {w wr ws : World} {tb : Nat} {t : Tg.Tree} {ta : Option Addr} {tc : Nat} {tp : Option Addr} {tq : Nat} {b : List UInt8} {ba : Option Addr} {more : List UInt8} {mv : Value} (h : CW w tb t ta tc tp tq b ba more mv wr) (hb : Below wr.heap.size wr ws) : CW w tb t ta tc tp tq b ba more mv ws :=
  ⟨below_step h.below hb, (hb.block _ (lt_of_block h.ht)).trans h.ht, h.tr.at_ hb, h.br.keep (Keeps.any hb), h.mr.keep (Keeps.any hb), h.env.below hb⟩
theorem bytes_take {w : World} {a : Option Addr} {b : List UInt8} {n c : Nat} (h : BytesR AnyB w (.slice a b.length c) b) (k : Nat) (hk : k ≤ b.length) (hn : n = k) : BytesR AnyB w (.slice a n c) (b.take k) := by
  subst hn
  obtain ⟨a', c', he, hc, hl, hs⟩ := h
  injection he with h1 h2 h3
  subst h1 h3
  have e : (b.take n).length = n := by simp; omega
  refine ⟨a, c, by rw [e], by omega, by omega, ?_⟩
  have e2 : bvs (b.take n) = (bvs b).take n := by simp [bvs, List.map_take]
  rw [e2]
  exact hs.take n

set_option maxRecDepth 100000 in
set_option maxHeartbeats 2000000 in
theorem codes_law (ns : List Tg.N) (a : Option Addr) (c : Nat) (F : Nat) (am : Option Addr) (cm : Nat) (more : List UInt8) (w : World) (hn : NsR w a ns) (hnl : ns.length ≤ lim) (hF : F < 256) (hm : BytesR AnyB w (.slice am more.length cm) more) (henv : Env w) :
    Calls Tryd.prog 5 #[.slice a ns.length c, .int .u8 F, .slice am more.length cm] w (BoolPost w true) := by
  have HN := Lib.hid hn
  have HM := Lib.hid hm
  have HE := Lib.hid henv
  have HNL := Lib.hid hnl
  have hml : more.length ≤ 140737488355328 := by
    obtain ⟨_, _, _, _, h, _⟩ := hm
    exact h
  clear hn hm henv
  obtain ⟨f, hf⟩ : ∃ f, f = F % 3 := ⟨_, rfl⟩
  have hF3 : (F : Int) % 3 = (f : Int) := by omega
  have hf2 : f ≤ 2 := by omega
  clear hf
  go_enter Tryd.func5, Tryd.ntmps5
  go_wp2_with fail
  refine (big_any ns a c _ HN.out HNL.out).mono ?_
  rintro e w1 ⟨hw, b1, rfl⟩
  subst hw
  cases b1 with
  | true =>
    go_wp2_with fail
    refine (lives_any _ HE.out).mono ?_
    rintro e w2 ⟨rfl, hb2⟩
    go_wp2_with fail
    go_ret
    exact ⟨rfl, hb2⟩
  | false =>
  by_cases h40 : 40 < more.length
  · go_wp2_with fail
    refine (lives_any _ HE.out).mono ?_
    rintro e w2 ⟨rfl, hb2⟩
    go_wp2_with fail
    go_ret
    exact ⟨rfl, hb2⟩
  go_wp2_with fail
  refine (of_any ns a c _ HNL.out HN.out).mono ?_
  rintro e w2 ⟨x2, rfl, hb2, ht2⟩
  obtain ⟨t, ht⟩ : ∃ t, t = Tg.ofT ns := ⟨_, rfl⟩
  have HOK := Lib.hid (ht ▸ Tg.ofT_fine ns)
  rw [← ht] at ht2
  obtain ⟨ta, tc, tp, tq, rfl⟩ := ht2.form
  obtain ⟨b, hb⟩ : ∃ b, b = Tg.enc t f := ⟨_, rfl⟩
  have F1 := Lib.hid (hb ▸ HOK.out.enc hf2)
  have F2 := Lib.hid (hb ▸ HOK.out.first hf2 (r := more) (by omega))
  have F3 := Lib.hid (hb ▸ HOK.out.dec hf2)
  have F4 := Lib.hid (hb ▸ HOK.out.dec_more hf2 (r := [7]) (by simp) (by simp))
  have F5 := Lib.hid (show ∀ k, k < b.length → Tg.firstT (b.take k) = (.mk 0 0 false [] [], 0, 4) from fun k hk => by
    rw [hb] at hk ⊢
    exact HOK.out.cutOff hf2 hk)
  have F6 := Lib.hid (show f = 0 → b = Tg.enc t 0 from fun h => by rw [hb, h])
  have hbl : b.length ≤ 12960 := by rw [hb]; exact HOK.out.le f
  obtain ⟨w3, hw3⟩ : ∃ w3, w3 = w2.alloc (five t ta tc tp tq) := ⟨_, rfl⟩
  have hb23 : Below w2.heap.size w2 w3 := by rw [hw3]; exact below_new _
  have HB3 := Lib.hid (below_step hb2 hb23)
  have HT3 := Lib.hid (ht2.at_ hb23)
  obtain ⟨tb, htb⟩ : ∃ n, n = w2.heap.size := ⟨_, rfl⟩
  have H3 := Lib.hid (show w3.heap[tb]? = some (five t ta tc tp tq) by rw [hw3, htb]; exact alloc_new _ _)
  clear ht hb
  go_upto_region 4 with (fail)
  rw [← hw3, ← htb]
  clear hw3 htb hb23 ht2 hb2
  obtain ⟨t0, t1, t2, t3, t4⟩ := five_cells H3.out
  go_wp2_with fail
  refine (encAs_is F1.out _ _ rfl (by omega) w3 HT3.out).mono ?_
  rintro e w4 ⟨ba, rfl, hb4, hr4⟩
  have HC4 := Lib.hid (show CW w tb t ta tc tp tq b ba more (.slice am more.length cm) w4 from
    ⟨below_step HB3.out hb4, (hb4.block _ (lt_of_block H3.out)).trans H3.out, HT3.out.at_ hb4, hr4.any, HM.out.keep (Keeps.any (below_step HB3.out hb4)), HE.out.below (below_step HB3.out hb4)⟩)
  clear hb4 hr4 t0 t1 t2 t3 t4 H3 HT3 HB3
  go_wp2_with (at_builtin; refine Stop.mk ?_)
  have HSRC := Lib.hid (BytesR.src (HC4.out.br.keep (Keeps.any (below_new (.cells #[] 5)))))
  refine Stop.of (wp_append rfl _ _ rfl rfl rfl (row := none) (l := []) (Buf.nil _ _) HSRC.out rfl (by simp; omega) ?_)
  intro v5 w5 r5 hb5 hg5 hr5
  simp only [List.nil_append] at hb5
  have HB5 := Lib.hid hb5
  have HR5 := Lib.hid hr5
  have HBL5 := Lib.hid (below_step (below_new (.cells #[] 5)) (below_of_grown hg5))
  have HSRC := Lib.hid (BytesR.src (HC4.out.mr.keep (Keeps.any HBL5.out)))
  clear hb5 hg5 hr5
  go_wp2_with (at_builtin; refine Stop.mk ?_)
  refine Stop.of (wp_append rfl _ _ rfl rfl rfl HB5.out HSRC.out rfl (by omega) ?_)
  intro v6 w6 r6 hb6 hg6 hr6
  have HBL6 := Lib.hid (below_row (wr := w4.alloc (.cells #[] 5)) HBL5.out (by simp) HR5.out hg6)
  have HC6 := Lib.hid (HC4.out.step HBL6.out)
  have HB6 := Lib.hid ((hb6.reads (by unfold lim; simp; omega)).any)
  clear hb6 hg6 hr6 HSRC HB5 HR5 HBL5 HBL6 HC4
  go_wp2_with fail
  refine (first_is F2.out _ w6 HB6.out).mono ?_
  rintro e w7 ⟨x7, rfl, hb7, ht7⟩
  change TreeR _ _ t _ at ht7
  obtain ⟨ga, gc, gp, gq, rfl⟩ := ht7.form
  obtain ⟨w8, hw8⟩ : ∃ w8, w8 = w7.alloc (five t ga gc gp gq) := ⟨_, rfl⟩
  have hb78 : Below w7.heap.size w7 w8 := by rw [hw8]; exact below_new _
  have HC8 := Lib.hid ((HC6.out.step hb7).step hb78)
  have HG8 := Lib.hid (ht7.at_ hb78)
  obtain ⟨gb, hgb⟩ : ∃ n, n = w7.heap.size := ⟨_, rfl⟩
  have H8 := Lib.hid (show w8.heap[gb]? = some (five t ga gc gp gq) by rw [hw8, hgb]; exact alloc_new _ _)
  go_upto_region 9 with (fail)
  rw [← hw8, ← hgb]
  clear hw8 hgb hb78 hb7 ht7 HC6 HB6
  go_wp2_with fail
  refine (dec_is F3.out _ w8 HC8.out.br).mono ?_
  rintro e w9 ⟨x9, rfl, hb9, ht9⟩
  change TreeR _ _ t _ at ht9
  obtain ⟨ha, hc, hp, hq, rfl⟩ := ht9.form
  obtain ⟨w10, hw10⟩ : ∃ w10, w10 = w9.alloc (five t ha hc hp hq) := ⟨_, rfl⟩
  have hbx : Below w9.heap.size w9 w10 := by rw [hw10]; exact below_new _
  have hby := below_step hb9 hbx
  have HC10 := Lib.hid (HC8.out.step hby)
  have HG10 := Lib.hid (HG8.out.at_ hby)
  have HH10 := Lib.hid (ht9.at_ hbx)
  have HGC10 := Lib.hid ((hby.block _ (lt_of_block H8.out)).trans H8.out)
  obtain ⟨hbn, hhb⟩ : ∃ n, n = w9.heap.size := ⟨_, rfl⟩
  have HHC10 := Lib.hid (show w10.heap[hbn]? = some (five t ha hc hp hq) by rw [hw10, hhb]; exact alloc_new _ _)
  go_upto_region 10 with (fail)
  rw [← hw10, ← hhb]
  clear hw10 hhb hbx hby hb9 ht9 HC8 HG8 H8
  go_wp2_with (at_builtin; refine Stop.mk ?_)
  have HSRC := Lib.hid (BytesR.src (HC10.out.br.keep (Keeps.any (below_new (.cells #[] 5)))))
  refine Stop.of (wp_append rfl _ _ rfl rfl rfl (row := none) (l := []) (Buf.nil _ _) HSRC.out rfl (by simp; omega) ?_)
  intro v11 w11 r11 hb11 hg11 hr11
  simp only [List.nil_append] at hb11
  have HB11 := Lib.hid hb11
  have HR11 := Lib.hid hr11
  have HBL11 := Lib.hid (below_step (below_new (.cells #[] 5)) (below_of_grown hg11))
  clear hb11 hg11 hr11 HSRC
  go_wp2_with (at_builtin; refine Stop.mk ?_)
  refine Stop.of (wp_append rfl _ _ rfl rfl rfl (HB11.out.alloc _) (src_one w11 _ 7 (by simp) rfl) rfl (by simp; omega) ?_)
  intro v12 w12 r12 hb12 hg12 hr12
  have HBL12 := Lib.hid (below_row (wr := w10.alloc (.cells #[] 5)) (HBL11.out.trans ((below_new _).mono (by have := HBL11.out.size; omega))) (by simp) HR11.out hg12)
  have HC12 := Lib.hid (HC10.out.step HBL12.out)
  have HG12 := Lib.hid (HG10.out.at_ HBL12.out)
  have HH12 := Lib.hid (HH10.out.at_ HBL12.out)
  have HGC12 := Lib.hid ((HBL12.out.block _ (lt_of_block HGC10.out)).trans HGC10.out)
  have HHC12 := Lib.hid ((HBL12.out.block _ (lt_of_block HHC10.out)).trans HHC10.out)
  have HB12 := Lib.hid ((hb12.reads (by unfold lim; simp; omega)).any)
  clear hb12 hg12 hr12 HB11 HR11 HBL11 HBL12 HC10 HG10 HH10 HGC10 HHC10
  go_wp2_with fail
  refine (dec_is F4.out _ w12 HB12.out).mono ?_
  rintro e w13 ⟨x13, rfl, hb13, ht13⟩
  change TreeR _ _ (.mk 0 0 false [] []) _ at ht13
  obtain ⟨ka, kc, kp, kq, rfl⟩ := ht13.form
  go_upto_region 11 with (fail)
  generalize hw14 : World.alloc w13 _ = w14
  have hby := below_step hb13 (show Below w13.heap.size w13 w14 by rw [← hw14]; exact below_new _)
  have HC14 := Lib.hid (HC12.out.step hby)
  have HG14 := Lib.hid (HG12.out.at_ hby)
  have HH14 := Lib.hid (HH12.out.at_ hby)
  obtain ⟨g0, g1, g2, g3, g4⟩ := five_cells ((hby.block _ (lt_of_block HGC12.out)).trans HGC12.out)
  obtain ⟨h0, h1, h2, h3, h4⟩ := five_cells ((hby.block _ (lt_of_block HHC12.out)).trans HHC12.out)
  obtain ⟨t0, t1, t2, t3, t4⟩ := five_cells HC14.out.ht
  clear hw14 hby hb13 ht13 HC12 HG12 HH12 HGC12 HHC12 HB12
  have hcell := fun {x : Addr} {y : Value} (w' : World) (hb : Hid (Below w14.heap.size w14 w')) (h : w14.cell? x = some y) => cell_below hb.out h
  have KS := Lib.hid (show ∀ w', Hid (Below w14.heap.size w14 w') →
      w'.cell? ⟨tb, 0, none⟩ = some (.int .u8 t.cls) ∧ w'.cell? ⟨tb, 1, none⟩ = some (.int .u32 t.tag) ∧ w'.cell? ⟨tb, 2, none⟩ = some (.bool t.built) ∧ w'.cell? ⟨tb, 3, none⟩ = some (.slice ta t.val.length tc) ∧ w'.cell? ⟨tb, 4, none⟩ = some (.slice tp t.parts.length tq) ∧
      w'.cell? ⟨gb, 0, none⟩ = some (.int .u8 t.cls) ∧ w'.cell? ⟨gb, 1, none⟩ = some (.int .u32 t.tag) ∧ w'.cell? ⟨gb, 2, none⟩ = some (.bool t.built) ∧ w'.cell? ⟨gb, 3, none⟩ = some (.slice ga t.val.length gc) ∧ w'.cell? ⟨gb, 4, none⟩ = some (.slice gp t.parts.length gq) ∧
      w'.cell? ⟨hbn, 0, none⟩ = some (.int .u8 t.cls) ∧ w'.cell? ⟨hbn, 1, none⟩ = some (.int .u32 t.tag) ∧ w'.cell? ⟨hbn, 2, none⟩ = some (.bool t.built) ∧ w'.cell? ⟨hbn, 3, none⟩ = some (.slice ha t.val.length hc) ∧ w'.cell? ⟨hbn, 4, none⟩ = some (.slice hp t.parts.length hq) ∧
      Hid (Below w14.heap.size w14 w') from fun w' hb => ⟨hcell w' hb t0, hcell w' hb t1, hcell w' hb t2, hcell w' hb t3, hcell w' hb t4, hcell w' hb g0, hcell w' hb g1, hcell w' hb g2, hcell w' hb g3, hcell w' hb g4, hcell w' hb h0, hcell w' hb h1, hcell w' hb h2, hcell w' hb h3, hcell w' hb h4, hb⟩)
  have KR := Lib.hid (show ∀ w', Hid (Below w14.heap.size w14 w') → TreeR AnyB w' t (aggT t ta tc tp tq) ∧ TreeR AnyB w' t (aggT t ga gc gp gq) ∧ TreeR AnyB w' t (aggT t ha hc hp hq) from
    fun w' hb => ⟨HC14.out.tr.at_ hb.out, HG14.out.at_ hb.out, HH14.out.at_ hb.out⟩)
  have h14 : Hid (Below w14.heap.size w14 w14) := Below.refl _ _
  have h14d : Hid (Below w14.heap.size w14 w14.drew) := ⟨rfl, rfl, rfl, Nat.le_refl _, fun _ _ => rfl⟩
  have HST := Lib.hid (sameT_self HOK.out.chk)
  have HFL := Lib.hid (show (Tg.flat t == Tg.flat t) = true by simp)
  have HCN := Lib.hid HOK.out.cnt
  clear hcell
  go_region_held3 (fun w' => w'.cell? ⟨tb, 0, none⟩ = some (.int .u8 t.cls) ∧ w'.cell? ⟨tb, 1, none⟩ = some (.int .u32 t.tag) ∧ w'.cell? ⟨tb, 2, none⟩ = some (.bool t.built) ∧ w'.cell? ⟨tb, 3, none⟩ = some (.slice ta t.val.length tc) ∧ w'.cell? ⟨tb, 4, none⟩ = some (.slice tp t.parts.length tq) ∧
      w'.cell? ⟨gb, 0, none⟩ = some (.int .u8 t.cls) ∧ w'.cell? ⟨gb, 1, none⟩ = some (.int .u32 t.tag) ∧ w'.cell? ⟨gb, 2, none⟩ = some (.bool t.built) ∧ w'.cell? ⟨gb, 3, none⟩ = some (.slice ga t.val.length gc) ∧ w'.cell? ⟨gb, 4, none⟩ = some (.slice gp t.parts.length gq) ∧
      w'.cell? ⟨hbn, 0, none⟩ = some (.int .u8 t.cls) ∧ w'.cell? ⟨hbn, 1, none⟩ = some (.int .u32 t.tag) ∧ w'.cell? ⟨hbn, 2, none⟩ = some (.bool t.built) ∧ w'.cell? ⟨hbn, 3, none⟩ = some (.slice ha t.val.length hc) ∧ w'.cell? ⟨hbn, 4, none⟩ = some (.slice hp t.parts.length hq) ∧
      Hid (Below w14.heap.size w14 w')) (first | exact KS.out _ (by assumption) | exact KS.out _ (below_drewH (by assumption)))
    (first
      | (go_at_call 17
         first
           | with_reducible refine (same_is HST.out _ _ _ (KR.out _ (by assumption)).2.1 (KR.out _ (by assumption)).1).mono ?_
           | with_reducible refine (same_is HST.out _ _ _ (KR.out _ (by assumption)).2.2 (KR.out _ (by assumption)).1).mono ?_
         rintro e w' ⟨rfl, hb⟩
         have hbw : Hid (Below w14.heap.size w14 w') := below_step (by assumption) hb)
      | (go_at_call 16
         first
           | with_reducible refine (flat_is _ _ _ (by have := HCN.out; omega) (KR.out _ (by assumption)).1).mono ?_
           | with_reducible refine (flat_is _ _ _ (by have := HCN.out; omega) (KR.out _ (by assumption)).2.1).mono ?_
         rintro e w' ⟨v, rfl, hnv, hb⟩
         have hbw : Hid (Below w14.heap.size w14 w') := below_step (by assumption) hb)
      | (go_at_call 22
         with_reducible refine (alike_is HFL.out _ _ _ (by rw [Tg.flat_len]; have := HCN.out; unfold lim; omega) (by rw [Tg.flat_len]; have := HCN.out; unfold lim; omega) (NodesR.below (by assumption) (by assumption)) (by assumption)).mono ?_
         rintro e w' ⟨rfl, hb⟩
         have hbw : Hid (Below w14.heap.size w14 w') := below_step (by assumption) hb))
  have hfin : Below w14.heap.size w14 w' := by assumption
  have HC15 := Lib.hid (HC14.out.step hfin)
  clear hfin
  go_wp2_with fail
  go_loopw [18] (fun i wr => ∃ k : Nat, k ≤ b.length ∧ k ≤ 60 ∧ i = .int .i64 k ∧ Hid (CW w tb t ta tc tp tq b ba more (.slice am more.length cm) wr)) (fun i _ => b.length - (intOf i).toNat)
  case atStart => exact ⟨0, by omega, by omega, rfl, HC15.out⟩
  case round =>
    obtain ⟨k, hk, hk60, rfl, hcw⟩ := hrel
    have HCW := Lib.hid hcw.out
    clear hcw
    by_cases hlt : k < b.length ∧ k < 60
    · obtain ⟨hl1, hl2⟩ := hlt
      go_wp2_with fail
      refine (first_is (F5.out (b.length - 1 - k) (by omega)) _ _ (bytes_take HCW.out.br _ (by omega) (by omega))).mono ?_
      rintro e wx ⟨x, rfl, hbx, htx⟩
      change TreeR _ _ (.mk 0 0 false [] []) _ at htx
      obtain ⟨ka, kc, kp, kq, rfl⟩ := htx.form
      have HCX := Lib.hid (HCW.out.step hbx)
      clear hbx htx HCW
      go_wp2_with fail
      go_roundw
      case rel => exact ⟨k + 1, by omega, by omega, by go_num, HCX.out.step (below_new _)⟩
      case measure => simp [intOf]; omega
    · obtain ⟨B, hB⟩ : ∃ B, (Tg.enc t 0 == b) = B := ⟨_, rfl⟩
      have HB := Lib.hid hB
      have HBS := Lib.hid (show (b == Tg.enc t 0) = B by rw [← hB]; exact BEq.comm)
      have hBB : (B == B) = true := by simp
      have HB0 := Lib.hid (show f = 0 → B = true from fun h => by rw [← hB, ← F6.out h]; simp)
      clear hB
      have HSZ := Lib.hid (check_zero HOK.out.chk)
      have hends : ¬ ((k : Int) < b.length ∧ (k : Int) < 60) := by omega
      by_cases hf0 : f = 0
      · have hBt := HB0.out hf0
        subst hBt
        subst hf0
        by_cases hl1 : k < b.length
        · have hl2 : ¬ k < 60 := by omega
          go_wp2_with fail
          refine (canon_ok _ b t _ _ HCW.out.br F3.out HOK.out.pl HSZ.out.2 (by have := HOK.out.le 0; omega) HB.out).mono ?_
          rintro e wy ⟨rfl, hby⟩
          have HCY := Lib.hid (HCW.out.step hby)
          clear hby HCW
          go_wp2_with fail
          refine (lives_any _ HCY.out.env).mono ?_
          rintro e wz ⟨rfl, hbz⟩
          have HCZ := Lib.hid (HCY.out.step hbz)
          clear hbz
          go_wp2_with fail
          go_ret
          exact ⟨rfl, HCZ.out.below⟩
        · skip
          go_wp2_with fail
          refine (canon_ok _ b t _ _ HCW.out.br F3.out HOK.out.pl HSZ.out.2 (by have := HOK.out.le 0; omega) HB.out).mono ?_
          rintro e wy ⟨rfl, hby⟩
          have HCY := Lib.hid (HCW.out.step hby)
          clear hby HCW
          go_wp2_with fail
          refine (lives_any _ HCY.out.env).mono ?_
          rintro e wz ⟨rfl, hbz⟩
          have HCZ := Lib.hid (HCY.out.step hbz)
          clear hbz
          go_wp2_with fail
          go_ret
          exact ⟨rfl, HCZ.out.below⟩
      · have hf0' : ((f : Int) == 0) = false := by simp; omega
        by_cases hl1 : k < b.length
        · have hl2 : ¬ k < 60 := by omega
          go_wp2_with fail
          refine (canon_ok _ b t _ _ HCW.out.br F3.out HOK.out.pl HSZ.out.2 (by have := HOK.out.le 0; omega) HB.out).mono ?_
          rintro e wy ⟨rfl, hby⟩
          have HCY := Lib.hid (HCW.out.step hby)
          clear hby HCW
          obtain ⟨t0, t1, t2, t3, t4⟩ := five_cells HCY.out.ht
          go_wp2_with fail
          refine (canonical_any t (Tg.enc t 0) 0 _ _ (HOK.out.enc (by omega)) HCY.out.tr).mono ?_
          rintro e wu ⟨ca, rfl, hbu, hru⟩
          have HRU := Lib.hid hru
          have HCY := Lib.hid (HCY.out.step hbu)
          clear hbu hru t0 t1 t2 t3 t4
          go_wp2_with fail
          refine (same_bs _ _ _ _ _ _ _ HCY.out.br HRU.out).mono ?_
          rintro e wv ⟨hwv, rfl⟩
          subst hwv
          rw [HBS.out]
          go_wp2_with fail
          refine (lives_any _ HCY.out.env).mono ?_
          rintro e wz ⟨rfl, hbz⟩
          have HCZ := Lib.hid (HCY.out.step hbz)
          clear hbz
          go_wp2_with fail
          go_ret
          exact ⟨rfl, HCZ.out.below⟩
        · skip
          go_wp2_with fail
          refine (canon_ok _ b t _ _ HCW.out.br F3.out HOK.out.pl HSZ.out.2 (by have := HOK.out.le 0; omega) HB.out).mono ?_
          rintro e wy ⟨rfl, hby⟩
          have HCY := Lib.hid (HCW.out.step hby)
          clear hby HCW
          obtain ⟨t0, t1, t2, t3, t4⟩ := five_cells HCY.out.ht
          go_wp2_with fail
          refine (canonical_any t (Tg.enc t 0) 0 _ _ (HOK.out.enc (by omega)) HCY.out.tr).mono ?_
          rintro e wu ⟨ca, rfl, hbu, hru⟩
          have HRU := Lib.hid hru
          have HCY := Lib.hid (HCY.out.step hbu)
          clear hbu hru t0 t1 t2 t3 t4
          go_wp2_with fail
          refine (same_bs _ _ _ _ _ _ _ HCY.out.br HRU.out).mono ?_
          rintro e wv ⟨hwv, rfl⟩
          subst hwv
          rw [HBS.out]
          go_wp2_with fail
          refine (lives_any _ HCY.out.env).mono ?_
          rintro e wz ⟨rfl, hbz⟩
          have HCZ := Lib.hid (HCY.out.step hbz)
          clear hbz
          go_wp2_with fail
          go_ret
          exact ⟨rfl, HCZ.out.below⟩
end Go.Proofs.YthonjbaeadbhdaaDoor
