/- Contract of tags.encode. -/
import Derived.Test.YthonjbaeadbhdaaDoorTagsClip
namespace Go.Proofs.YthonjbaeadbhdaaDoor
open Go.RowKit

theorem plainL_get : ∀ (ps : List Tg.Tree) (j : Nat) (p : Tg.Tree), Tg.plainL ps = true → ps[j]? = some p → Tg.plain p = true
  | [], j, p, _, h => by simp at h
  | q :: ps, 0, p, hp, h => by
    simp at h
    subst h
    simp only [Tg.plainL, Bool.and_eq_true] at hp
    exact hp.1
  | q :: ps, j + 1, p, hp, h => by
    simp only [Tg.plainL, Bool.and_eq_true] at hp
    exact plainL_get ps j p hp.2 (by simpa using h)
theorem plain_open {c t : Nat} {b : Bool} {v : List UInt8} {ps : List Tg.Tree} (h : Tg.plain (.mk c t b v ps) = true) : Tg.plainL ps = true ∧ (b = true → v = []) ∧ (b = false → ps = []) := by
  simp only [Tg.plain, Bool.and_eq_true, Bool.not_eq_true', Bool.or_eq_false_iff, Bool.and_eq_false_iff] at h
  obtain ⟨⟨_, h1, h2⟩, h3⟩ := h
  refine ⟨h3, ?_, ?_⟩
  · intro hb
    rcases h1 with h1 | h1
    · rw [hb] at h1
      cases h1
    · simpa using h1
  · intro hb
    rcases h2 with h2 | h2
    · rw [hb] at h2
      cases h2
    · simpa using h2
theorem body_le (l : List UInt8) (g : Nat) : l.length ≤ (Tg.body l g).length := by
  unfold Tg.body
  split
  · simp
    omega
  · simp
/-- The blocks that are read while a tree is written behind 'row': neither the row's nor a new one. -/
def okT (row : Option Nat) (B : Nat) (k : Nat) : Prop := row ≠ some k ∧ k < B

set_option maxRecDepth 100000 in
set_option maxHeartbeats 2000000 in
theorem encode_any (k : Nat) : ∀ (t : Tg.Tree) (x : Value) (F : Int) (f : Nat) (row : Option Nat) (v : Value) (l : List UInt8) (w : World), sz t ≤ k → Tg.plain t = true → F = f → f < 3 → TreeR (fun k => row ≠ some k) w t x → Buf w row v l → l.length + (Tg.enc t f).length + 9 ≤ lim →
    Calls Tryd.prog 40 #[v, x, .int .u8 F] w (AppPost w row (l ++ Tg.enc t f)) := by
  induction k with
  | zero =>
    intro t
    obtain ⟨c, tg, b, v, ps⟩ := t
    intro x F f row v l w hk
    simp [sz] at hk
  | succ k ih =>
    intro t
    obtain ⟨c, tg, b', vv, ps⟩ := t
    intro x F f row v l w hk hp hF hf ht hb hlim
    subst hF
    have ht2 := TreeR.weaken_lt (Nat.le_refl _) _ _ ht
    obtain ⟨h1, h2, h3, h4, va, vc, pa, pc, rfl, h5, h6, h7, xs, h8, h9⟩ := ht2.open
    obtain ⟨a, cc, rfl, hcc⟩ := hb.shape
    obtain ⟨hp1, hp2, hp3⟩ := plain_open hp
    have HB := Lib.hid hb
    have HBOX : Hid (∀ wr, (w.alloc (.cells #[.int .u8 c, .int .u32 tg, .bool b', .slice va vv.length vc, .slice pa ps.length pc] 36)).grownBy wr row → wr.heap[w.heap.size]? = some (.cells #[.int .u8 c, .int .u32 tg, .bool b', .slice va vv.length vc, .slice pa ps.length pc] 36)) :=
      fun wr h => box_kept hb.row_lt h
    have HT := Lib.hid ht
    have H7 := Lib.hid h7
    have H8 := Lib.hid h8
    have H9 := Lib.hid h9
    have IH := Lib.hid ih
    have HP := Lib.hid hp1
    have HP2 := Lib.hid hp2
    have HP3 := Lib.hid hp3
    have HE := Lib.hid (show Tg.enc (.mk c tg b' vv ps) f = Tg.ident c tg b' ++ Tg.body (vv ++ Tg.encL ps (Tg.sub b' f)) (Tg.sub b' f) from rfl)
    have HLIM := Lib.hid hlim
    unfold lim at h3 h4
    simp only [sz] at hk
    clear ih ht ht2 h7 h8 h9 hb hp hp1 hp2 hp3 hlim
    go_enter Tryd.func40, Tryd.ntmps40
    go_wp2_with fail
    refine (identifier_any (.mk c tg b' vv ps) _ row _ l _ (TreeR.keep (Keeps.any (below_new _)) _ _ HT.out.any) (HB.out.alloc _) (by have := HLIM.out; have := ident_le c tg b'; rw [HE.out, List.length_append] at *; omega)).mono ?_
    rintro e w1 ⟨v1, r1, rfl, hb1, hg1, hr1⟩
    simp only [Tg.Tree.cls, Tg.Tree.tag, Tg.Tree.built] at hb1
    obtain ⟨L1, hL1⟩ : ∃ L1, L1 = l ++ Tg.ident c tg b' := ⟨_, rfl⟩
    rw [← hL1] at hb1
    have HL1 := Lib.hid hL1
    clear hL1
    have hbox := HBOX.out _ hg1
    obtain ⟨b0, b1, b2, b3, b4⟩ := five_cells hbox
    have B1 := Lib.hid hb1
    have G1 := Lib.hid (grown_trans (grown_alloc w _ row) hg1)
    have R1 := Lib.hid (RowStep.trans (w := w) (RowStep.refl _ _) (by simp) hr1)
    have HLT1 := Lib.hid (Row.row_lt hb1)
    have R1X := Lib.hid (RowStep.trans (w := w) (RowStep.refl w row) (by simp) hr1)
    clear hb1 hg1 hr1 hbox
    have hbody := body_le (vv ++ Tg.encL ps (Tg.sub b' f)) (Tg.sub b' f)
    have hlen1 : L1.length + (Tg.body (vv ++ Tg.encL ps (Tg.sub b' f)) (Tg.sub b' f)).length + 9 ≤ 140737488355328 := by
      have := HLIM.out
      rw [HE.out, List.length_append] at this
      rw [HL1.out, List.length_append]
      unfold lim at this
      omega
    have hlen2 : vv.length + (Tg.encL ps (Tg.sub b' f)).length ≤ (Tg.body (vv ++ Tg.encL ps (Tg.sub b' f)) (Tg.sub b' f)).length := by rw [← List.length_append]; exact hbody
    have HLEN := Lib.hid (And.intro hlen1 hlen2)
    clear hbody hlen1 hlen2
    have hcase : b' = true ∨ (b' = false ∧ f = 2) ∨ (b' = false ∧ f ≠ 2) := by cases b' <;> simp; omega
    have hF : ∃ (f' : Nat), Hid (Tg.sub b' f = f') ∧ f' < 3 ∧ (b' = true ∧ f' = f ∨ b' = false ∧ f = 2 ∧ f' = 2 ∨ b' = false ∧ f ≠ 2 ∧ f' = 0) := by
      rcases hcase with h | h | h
      · exact ⟨f, by show _ = _; simp [Tg.sub, h], hf, .inl ⟨h, rfl⟩⟩
      · exact ⟨2, by show _ = _; simp [Tg.sub, h], by omega, .inr (.inl ⟨h.1, h.2, rfl⟩)⟩
      · exact ⟨0, by show _ = _; simp [Tg.sub, h], by omega, .inr (.inr ⟨h.1, h.2, rfl⟩)⟩
    clear hcase
    obtain ⟨f', HSUB, hf', hways⟩ := hF
    rw [HSUB.out] at HE HLEN
    clear HSUB HLIM HBOX
    obtain ⟨a1, c1, rfl, hc1⟩ := B1.out.shape
    have hps : Hid (ps ≠ [] → vv = []) := by
      intro h
      cases b'
      · exact absurd (HP3.out rfl) h
      · exact HP2.out rfl
    clear HP2 HP3
    have HEND : Hid (Tg.enc (.mk c tg b' vv ps) f = Tg.ident c tg b' ++ Tg.body (vv ++ Tg.encL ps f') f') := HE
    clear HE
    have hne : b' = false → f ≠ 2 → ((f : Int) != 2) = true := by
      intro _ h
      simp
      omega
    have HNE := Lib.hid hne
    clear hne
    rcases hways with ⟨rfl, rfl⟩ | ⟨rfl, rfl, rfl⟩ | ⟨rfl, hne, rfl⟩
    rotate_left 2
    · have hne' := HNE.out rfl hne
      have HZ := Lib.hid hne
      clear hne HNE
      go_wp2_with fail
      refine (clip_bytes (okT row w.heap.size) _ vv w1 ⟨va, vc, rfl, h5, h3, H7.out.keep (Keeps.of_grown G1.out fun k hk e => hk.1 e.symm)⟩).mono ?_
      rintro e w2 ⟨rfl, a2, rfl, hs2⟩
      have HC : Hid (BytesR (fun k => r1 ≠ some k) w1 (.slice a2 vv.length vv.length) vv ∧ (ps ≠ [] → ∃ rc, Buf w1 rc (.slice a2 vv.length vv.length) vv ∧ RowStep w1 none rc)) := by
        refine ⟨⟨a2, _, rfl, Nat.le_refl _, h3, hs2.weaken fun k hk => ?_⟩, fun h => ?_⟩
        · rcases R1.out with rfl | ⟨g, rfl, hg⟩
          · exact hk.1
          · intro e
            injection e with e
            have := hk.2
            omega
        · rw [hps.out h]
          exact ⟨none, Buf.nil _ _, .inl rfl⟩
      clear hs2 H7 hps b0 b1 b2 b3
      go_wp2_with fail
      go_loopw [7, 26] (fun vc i wr => ∃ (j : Nat) (lc : List UInt8) (ac : Option Addr) (cc' : Nat), j ≤ ps.length ∧ i = .int .i64 j ∧ vc = .slice ac lc.length cc' ∧ Hid (lc = vv ++ Tg.encL (ps.take j) 0) ∧
          Hid (BytesR (fun k => r1 ≠ some k) wr (.slice ac lc.length cc') lc) ∧ Hid (ps ≠ [] → ∃ rc, Buf wr rc (.slice ac lc.length cc') lc ∧ RowStep w1 none rc) ∧ Hid (w.grownBy wr row) ∧ Hid (w1.heap.size ≤ wr.heap.size) ∧ Hid (Buf wr r1 (.slice a1 L1.length c1) L1))
        (fun _ i _ => ps.length - (intOf i).toNat)
      case atStart => exact ⟨0, vv, a2, vv.length, by omega, rfl, rfl, (by show _ = _; simp [Tg.encL]), HC.out.1, HC.out.2, G1, Nat.le_refl _, B1⟩
      case round =>
        obtain ⟨j, lc, ac, cc', hj, rfl, rfl, hlc, hcr, hcb, hgr, hsz, hbr⟩ := hrel
        clear HC B1 b4
        by_cases hlt : j < ps.length
        · obtain ⟨g, o, va', vc', pa', pc', rfl, hgo, hx, c0, c1', c2, c3, c4⟩ := part_cells (H8.out.keep (Keeps.of_grown hgr.out fun k hk e => hk.1 e.symm)) (TreesR.keep (Keeps.of_grown hgr.out fun k hk e => hk.1 e.symm) _ _ H9.out) (List.getElem?_eq_getElem hlt)
          have hszp := sz_get ps j _ (List.getElem?_eq_getElem hlt)
          have hpl := plainL_get ps j _ HP.out (List.getElem?_eq_getElem hlt)
          obtain ⟨rc, hrb, hrs⟩ := hcb.out (by intro h; rw [h] at hlt; simp at hlt)
          have HX := Lib.hid hx
          have HPL := Lib.hid hpl
          have HRB := Lib.hid hrb
          have HRS := Lib.hid hrs
          clear hx hpl hrb hrs hcr hcb
          have HNEW := Lib.hid (show vv ++ Tg.encL (ps.take (j + 1)) 0 = lc ++ Tg.enc ps[j] 0 by rw [encL_take hlt, hlc.out, List.append_assoc])
          have HLC := Lib.hid (show lc.length + (Tg.enc ps[j] 0).length + L1.length + 9 ≤ 140737488355328 by
            have h1 := HLEN.out
            have h2 := encL_take_le ps (j + 1) 0
            have h3 := congrArg List.length HNEW.out
            simp only [List.length_append] at h3
            omega)
          go_wp2_with fail
          refine (IH.out ps[j] _ _ 0 rc _ lc _ (by omega) HPL.out rfl (by omega) (TreeR.keep (Keeps.of_below (below_new _) _) _ _ (TreeR.weaken (fun k hk => ?_) _ _ HX.out)) (HRB.out.alloc _) (by have := HLC.out; unfold lim; omega)).mono ?_
          · rcases HRS.out with rfl | ⟨g3, rfl, hg3⟩
            · simp
            · intro e
              injection e with e
              have := hk.2
              have := G1.out.size
              omega
          rintro e w3 ⟨v3, r3, rfl, hb3, hg3, hr3⟩
          rw [← HNEW.out] at hb3
          obtain ⟨lc3, hlc3⟩ : ∃ x, x = vv ++ Tg.encL (ps.take (j + 1)) 0 := ⟨_, rfl⟩
          rw [← hlc3] at hb3
          have HLC3 := Lib.hid hlc3
          clear hlc3
          obtain ⟨a3, c3', rfl, hc3⟩ :=  hb3.shape
          have HB3 := Lib.hid hb3
          have HRS3 := Lib.hid (RowStep.trans HRS.out (Nat.le_trans hsz.out (by simp)) hr3)
          have hne1 : r1 = none ∨ r1 ≠ rc := by
            rcases HRS.out with rfl | ⟨g3, rfl, hg3⟩
            · cases r1 <;> simp
            · cases hr1 : r1 with
              | none => exact .inl rfl
              | some g1 =>
                right
                intro e
                injection e with e
                have := HLT1.out g1 hr1
                omega
          have HG3 := Lib.hid (show w.grownBy w3 row by
            rcases HRS.out with rfl | ⟨g3, rfl, hg3'⟩
            · exact grown_trans (grown_trans hgr.out (grown_alloc _ _ _)) (grown_any hg3)
            · exact grown_new' (grown_trans hgr.out (grown_alloc _ _ _)) hg3 (by have := G1.out.size; omega))
          have HBR3 := Lib.hid ((hbr.out.alloc _).grown hg3 hne1)
          have HSZ3 := Lib.hid (Nat.le_trans hsz.out (Nat.le_trans (by simp) hg3.size))
          have HCR3 := Lib.hid (BytesR.weaken (ok' := fun k => r1 ≠ some k) (fun k hk e => by
            rcases HRS3.out with h | ⟨g4, h, hg4⟩
            · rw [h] at hk; cases hk
            · rw [h] at hk
              injection hk with hk
              have := HLT1.out k e
              omega) (hb3.reads (by have := HLC.out; rw [HLC3.out, HNEW.out, List.length_append]; unfold lim; omega)))
          clear hb3 hg3 hr3 hne1 HX HRB HRS
          go_wp2_with fail
          go_roundw
          case rel => exact ⟨j + 1, lc3, a3, c3', by omega, by go_num, rfl, HLC3, HCR3, fun _ => ⟨r3, HB3.out, HRS3.out⟩, HG3, HSZ3, HBR3⟩
          case measure => simp [intOf]; omega
        · skip
          have HLC := Lib.hid (show lc = vv ++ Tg.encL ps 0 by rw [hlc.out, show j = ps.length by omega, List.take_length])
          have HLN := Lib.hid (show L1.length + (Tg.body lc 0).length + 9 ≤ 140737488355328 by rw [HLC.out]; exact HLEN.out.1)
          have HFIN := Lib.hid (show l ++ Tg.enc (.mk c tg false vv ps) f = L1 ++ Tg.body lc 0 by rw [HEND.out, HL1.out, HLC.out, List.append_assoc])
          have hlcl := body_le lc 0
          clear hlc hcb H8 H9 IH HP HEND HL1 HLEN
          have HBD := Lib.hid (show Tg.body lc 0 = Tg.size lc.length 0 ++ lc by simp [Tg.body])
          have HSL := Lib.hid (show L1.length + (Tg.size lc.length 0).length + lc.length + 9 ≤ 140737488355328 by have := HLN.out; rw [HBD.out, List.length_append] at this; omega)
          have hsl := size_le lc.length 0
          go_wp2_with fail
          refine (size_any lc.length 0 _ rfl r1 _ L1 _ (by have := HLN.out; unfold lim; omega) (by omega) hbr.out (by have := HSL.out; unfold lim; omega)).mono ?_
          rintro e w3 ⟨v3, r3, rfl, hb3, hg3, hr3⟩
          obtain ⟨L3, hL3⟩ : ∃ x, x = L1 ++ Tg.size lc.length 0 := ⟨_, rfl⟩
          rw [← hL3] at hb3
          have HL3 := Lib.hid hL3
          have hL3l : L3.length = L1.length + (Tg.size lc.length 0).length := by rw [hL3, List.length_append]
          have HL3L := Lib.hid hL3l
          clear hL3 hL3l
          obtain ⟨a3, c3', rfl, hc3⟩ := hb3.shape
          have HB3 := Lib.hid hb3
          have HC3 := Lib.hid (BytesR.src (hcr.out.step hg3 hr3))
          obtain ⟨hg4, hr4⟩ := next_append hgr.out R1X.out (grown_refl _ _) hg3 hr3
          have HG4 := Lib.hid hg4
          have HR4 := Lib.hid hr4
          clear hb3 hg3 hr3 hg4 hr4
          go_wp2_with (at_builtin; refine Stop.mk ?_)
          refine Stop.of (wp_append rfl _ _ rfl rfl rfl HB3.out HC3.out rfl (by have := HSL.out; rw [HL3L.out]; omega) ?_)
          intro v4 w4 r4 hb4 hg4 hr4
          obtain ⟨hg5, hr5⟩ := next_append HG4.out HR4.out (grown_refl _ _) hg4 hr4
          have HB4 := Lib.hid hb4
          have HG5 := Lib.hid hg5
          have HR5 := Lib.hid hr5
          clear hb4 hg4 hr4 hg5 hr5
          go_wp2_with fail
          go_ret
          rw [HFIN.out, HBD.out, ← List.append_assoc, ← HL3.out]
          exact ⟨_, r4, rfl, HB4.out, HG5.out, HR5.out⟩
    · skip
      clear HNE
      go_wp2_with fail
      refine (clip_bytes (okT row w.heap.size) _ vv w1 ⟨va, vc, rfl, h5, h3, H7.out.keep (Keeps.of_grown G1.out fun k hk e => hk.1 e.symm)⟩).mono ?_
      rintro e w2 ⟨rfl, a2, rfl, hs2⟩
      have HC : Hid (BytesR (fun k => r1 ≠ some k) w1 (.slice a2 vv.length vv.length) vv ∧ (ps ≠ [] → ∃ rc, Buf w1 rc (.slice a2 vv.length vv.length) vv ∧ RowStep w1 none rc)) := by
        refine ⟨⟨a2, _, rfl, Nat.le_refl _, h3, hs2.weaken fun k hk => ?_⟩, fun h => ?_⟩
        · rcases R1.out with rfl | ⟨g, rfl, hg⟩
          · exact hk.1
          · intro e
            injection e with e
            have := hk.2
            omega
        · rw [hps.out h]
          exact ⟨none, Buf.nil _ _, .inl rfl⟩
      clear hs2 H7 hps b0 b1 b2 b3
      go_wp2_with fail
      go_loopw [7, 26] (fun vc i wr => ∃ (j : Nat) (lc : List UInt8) (ac : Option Addr) (cc' : Nat), j ≤ ps.length ∧ i = .int .i64 j ∧ vc = .slice ac lc.length cc' ∧ Hid (lc = vv ++ Tg.encL (ps.take j) f') ∧
          Hid (BytesR (fun k => r1 ≠ some k) wr (.slice ac lc.length cc') lc) ∧ Hid (ps ≠ [] → ∃ rc, Buf wr rc (.slice ac lc.length cc') lc ∧ RowStep w1 none rc) ∧ Hid (w.grownBy wr row) ∧ Hid (w1.heap.size ≤ wr.heap.size) ∧ Hid (Buf wr r1 (.slice a1 L1.length c1) L1))
        (fun _ i _ => ps.length - (intOf i).toNat)
      case atStart => exact ⟨0, vv, a2, vv.length, by omega, rfl, rfl, (by show _ = _; simp [Tg.encL]), HC.out.1, HC.out.2, G1, Nat.le_refl _, B1⟩
      case round =>
        obtain ⟨j, lc, ac, cc', hj, rfl, rfl, hlc, hcr, hcb, hgr, hsz, hbr⟩ := hrel
        clear HC B1 b4
        by_cases hlt : j < ps.length
        · obtain ⟨g, o, va', vc', pa', pc', rfl, hgo, hx, c0, c1', c2, c3, c4⟩ := part_cells (H8.out.keep (Keeps.of_grown hgr.out fun k hk e => hk.1 e.symm)) (TreesR.keep (Keeps.of_grown hgr.out fun k hk e => hk.1 e.symm) _ _ H9.out) (List.getElem?_eq_getElem hlt)
          have hszp := sz_get ps j _ (List.getElem?_eq_getElem hlt)
          have hpl := plainL_get ps j _ HP.out (List.getElem?_eq_getElem hlt)
          obtain ⟨rc, hrb, hrs⟩ := hcb.out (by intro h; rw [h] at hlt; simp at hlt)
          have HX := Lib.hid hx
          have HPL := Lib.hid hpl
          have HRB := Lib.hid hrb
          have HRS := Lib.hid hrs
          clear hx hpl hrb hrs hcr hcb
          have HNEW := Lib.hid (show vv ++ Tg.encL (ps.take (j + 1)) f' = lc ++ Tg.enc ps[j] f' by rw [encL_take hlt, hlc.out, List.append_assoc])
          have HLC := Lib.hid (show lc.length + (Tg.enc ps[j] f').length + L1.length + 9 ≤ 140737488355328 by
            have h1 := HLEN.out
            have h2 := encL_take_le ps (j + 1) f'
            have h3 := congrArg List.length HNEW.out
            simp only [List.length_append] at h3
            omega)
          go_wp2_with fail
          refine (IH.out ps[j] _ _ f' rc _ lc _ (by omega) HPL.out rfl (by omega) (TreeR.keep (Keeps.of_below (below_new _) _) _ _ (TreeR.weaken (fun k hk => ?_) _ _ HX.out)) (HRB.out.alloc _) (by have := HLC.out; unfold lim; omega)).mono ?_
          · rcases HRS.out with rfl | ⟨g3, rfl, hg3⟩
            · simp
            · intro e
              injection e with e
              have := hk.2
              have := G1.out.size
              omega
          rintro e w3 ⟨v3, r3, rfl, hb3, hg3, hr3⟩
          rw [← HNEW.out] at hb3
          obtain ⟨lc3, hlc3⟩ : ∃ x, x = vv ++ Tg.encL (ps.take (j + 1)) f' := ⟨_, rfl⟩
          rw [← hlc3] at hb3
          have HLC3 := Lib.hid hlc3
          clear hlc3
          obtain ⟨a3, c3', rfl, hc3⟩ :=  hb3.shape
          have HB3 := Lib.hid hb3
          have HRS3 := Lib.hid (RowStep.trans HRS.out (Nat.le_trans hsz.out (by simp)) hr3)
          have hne1 : r1 = none ∨ r1 ≠ rc := by
            rcases HRS.out with rfl | ⟨g3, rfl, hg3⟩
            · cases r1 <;> simp
            · cases hr1 : r1 with
              | none => exact .inl rfl
              | some g1 =>
                right
                intro e
                injection e with e
                have := HLT1.out g1 hr1
                omega
          have HG3 := Lib.hid (show w.grownBy w3 row by
            rcases HRS.out with rfl | ⟨g3, rfl, hg3'⟩
            · exact grown_trans (grown_trans hgr.out (grown_alloc _ _ _)) (grown_any hg3)
            · exact grown_new' (grown_trans hgr.out (grown_alloc _ _ _)) hg3 (by have := G1.out.size; omega))
          have HBR3 := Lib.hid ((hbr.out.alloc _).grown hg3 hne1)
          have HSZ3 := Lib.hid (Nat.le_trans hsz.out (Nat.le_trans (by simp) hg3.size))
          have HCR3 := Lib.hid (BytesR.weaken (ok' := fun k => r1 ≠ some k) (fun k hk e => by
            rcases HRS3.out with h | ⟨g4, h, hg4⟩
            · rw [h] at hk; cases hk
            · rw [h] at hk
              injection hk with hk
              have := HLT1.out k e
              omega) (hb3.reads (by have := HLC.out; rw [HLC3.out, HNEW.out, List.length_append]; unfold lim; omega)))
          clear hb3 hg3 hr3 hne1 HX HRB HRS
          go_wp2_with fail
          go_roundw
          case rel => exact ⟨j + 1, lc3, a3, c3', by omega, by go_num, rfl, HLC3, HCR3, fun _ => ⟨r3, HB3.out, HRS3.out⟩, HG3, HSZ3, HBR3⟩
          case measure => simp [intOf]; omega
        · skip
          have HLC := Lib.hid (show lc = vv ++ Tg.encL ps f' by rw [hlc.out, show j = ps.length by omega, List.take_length])
          have HLN := Lib.hid (show L1.length + (Tg.body lc f').length + 9 ≤ 140737488355328 by rw [HLC.out]; exact HLEN.out.1)
          have HFIN := Lib.hid (show l ++ Tg.enc (.mk c tg true vv ps) f' = L1 ++ Tg.body lc f' by rw [HEND.out, HL1.out, HLC.out, List.append_assoc])
          have hlcl := body_le lc f'
          clear hlc hcb H8 H9 IH HP HEND HL1 HLEN
          by_cases hf1 : f' = 1
          · subst hf1
            have HBD := Lib.hid (show Tg.body lc 1 = UInt8.ofNat 128 :: (lc ++ [0, 0]) by simp [Tg.body])
            have HSL := Lib.hid (show L1.length + lc.length + 12 ≤ 140737488355328 by have := HLN.out; rw [HBD.out] at this; simp at this; omega)
            go_wp2_with (at_builtin; refine Stop.mk ?_)
            refine Stop.of (wp_append rfl _ _ rfl rfl rfl (hbr.out.alloc _) (src_one wr _ (UInt8.ofNat 128) (by simp) rfl) rfl (by have := HSL.out; simp; omega) ?_)
            intro v3 w3 r3 hb3 hg3 hr3
            have HC3 := Lib.hid (BytesR.src ((hcr.out.keep (Keeps.of_below (below_new _) _)).step hg3 hr3))
            obtain ⟨hg4, hr4⟩ := next_append hgr.out R1X.out (grown_alloc _ _ _) hg3 hr3
            have HB3 := Lib.hid hb3
            have HG4 := Lib.hid hg4
            have HR4 := Lib.hid hr4
            clear hb3 hg3 hr3 hg4 hr4
            go_wp2_with (at_builtin; refine Stop.mk ?_)
            refine Stop.of (wp_append rfl _ _ rfl rfl rfl HB3.out HC3.out rfl (by have := HSL.out; simp; omega) ?_)
            intro v4 w4 r4 hb4 hg4 hr4
            obtain ⟨hg5, hr5⟩ := next_append HG4.out HR4.out (grown_refl _ _) hg4 hr4
            have HB4 := Lib.hid hb4
            have HG5 := Lib.hid hg5
            have HR5 := Lib.hid hr5
            clear hb4 hg4 hr4 hg5 hr5
            go_wp2_with (at_builtin; refine Stop.mk ?_)
            refine Stop.of (wp_append rfl _ _ rfl rfl rfl (HB4.out.alloc _) (src_two w4 0 0 0 0 (by simp) (by simp) rfl) rfl (by have := HSL.out; simp; omega) ?_)
            intro v5 w5 r5 hb5 hg6 hr6
            obtain ⟨hg7, hr7⟩ := next_append HG5.out HR5.out (grown_alloc _ _ _) hg6 hr6
            have HB5 := Lib.hid hb5
            have HG7 := Lib.hid hg7
            have HR7 := Lib.hid hr7
            clear hb5 hg6 hr6 hg7 hr7
            go_wp2_with fail
            go_ret
            rw [HFIN.out, HBD.out]
            refine ⟨_, r5, rfl, ?_, HG7.out, HR7.out⟩
            have := HB5.out
            simpa using this
          · have hf1' : ((f' : Int) == 1) = false := by simp; omega
            have HBD := Lib.hid (show Tg.body lc f' = Tg.size lc.length f' ++ lc by simp [Tg.body, hf1])
            have HSL := Lib.hid (show L1.length + (Tg.size lc.length f').length + lc.length + 9 ≤ 140737488355328 by have := HLN.out; rw [HBD.out, List.length_append] at this; omega)
            have hsl := size_le lc.length f'
            go_wp2_with fail
            refine (size_any lc.length f' _ rfl r1 _ L1 _ (by have := HLN.out; unfold lim; omega) (by omega) hbr.out (by have := HSL.out; unfold lim; omega)).mono ?_
            rintro e w3 ⟨v3, r3, rfl, hb3, hg3, hr3⟩
            obtain ⟨L3, hL3⟩ : ∃ x, x = L1 ++ Tg.size lc.length f' := ⟨_, rfl⟩
            rw [← hL3] at hb3
            have HL3 := Lib.hid hL3
            have hL3l : L3.length = L1.length + (Tg.size lc.length f').length := by rw [hL3, List.length_append]
            have HL3L := Lib.hid hL3l
            clear hL3 hL3l
            obtain ⟨a3, c3', rfl, hc3⟩ := hb3.shape
            have HB3 := Lib.hid hb3
            have HC3 := Lib.hid (BytesR.src (hcr.out.step hg3 hr3))
            obtain ⟨hg4, hr4⟩ := next_append hgr.out R1X.out (grown_refl _ _) hg3 hr3
            have HG4 := Lib.hid hg4
            have HR4 := Lib.hid hr4
            clear hb3 hg3 hr3 hg4 hr4
            go_wp2_with (at_builtin; refine Stop.mk ?_)
            refine Stop.of (wp_append rfl _ _ rfl rfl rfl HB3.out HC3.out rfl (by have := HSL.out; rw [HL3L.out]; omega) ?_)
            intro v4 w4 r4 hb4 hg4 hr4
            obtain ⟨hg5, hr5⟩ := next_append HG4.out HR4.out (grown_refl _ _) hg4 hr4
            have HB4 := Lib.hid hb4
            have HG5 := Lib.hid hg5
            have HR5 := Lib.hid hr5
            clear hb4 hg4 hr4 hg5 hr5
            go_wp2_with fail
            go_ret
            rw [HFIN.out, HBD.out, ← List.append_assoc, ← HL3.out]
            exact ⟨_, r4, rfl, HB4.out, HG5.out, HR5.out⟩
    · skip
      clear HNE
      go_wp2_with fail
      refine (clip_bytes (okT row w.heap.size) _ vv w1 ⟨va, vc, rfl, h5, h3, H7.out.keep (Keeps.of_grown G1.out fun k hk e => hk.1 e.symm)⟩).mono ?_
      rintro e w2 ⟨rfl, a2, rfl, hs2⟩
      have HC : Hid (BytesR (fun k => r1 ≠ some k) w1 (.slice a2 vv.length vv.length) vv ∧ (ps ≠ [] → ∃ rc, Buf w1 rc (.slice a2 vv.length vv.length) vv ∧ RowStep w1 none rc)) := by
        refine ⟨⟨a2, _, rfl, Nat.le_refl _, h3, hs2.weaken fun k hk => ?_⟩, fun h => ?_⟩
        · rcases R1.out with rfl | ⟨g, rfl, hg⟩
          · exact hk.1
          · intro e
            injection e with e
            have := hk.2
            omega
        · rw [hps.out h]
          exact ⟨none, Buf.nil _ _, .inl rfl⟩
      clear hs2 H7 hps b0 b1 b2 b3
      go_wp2_with fail
      go_loopw [7, 26] (fun vc i wr => ∃ (j : Nat) (lc : List UInt8) (ac : Option Addr) (cc' : Nat), j ≤ ps.length ∧ i = .int .i64 j ∧ vc = .slice ac lc.length cc' ∧ Hid (lc = vv ++ Tg.encL (ps.take j) 2) ∧
          Hid (BytesR (fun k => r1 ≠ some k) wr (.slice ac lc.length cc') lc) ∧ Hid (ps ≠ [] → ∃ rc, Buf wr rc (.slice ac lc.length cc') lc ∧ RowStep w1 none rc) ∧ Hid (w.grownBy wr row) ∧ Hid (w1.heap.size ≤ wr.heap.size) ∧ Hid (Buf wr r1 (.slice a1 L1.length c1) L1))
        (fun _ i _ => ps.length - (intOf i).toNat)
      case atStart => exact ⟨0, vv, a2, vv.length, by omega, rfl, rfl, (by show _ = _; simp [Tg.encL]), HC.out.1, HC.out.2, G1, Nat.le_refl _, B1⟩
      case round =>
        obtain ⟨j, lc, ac, cc', hj, rfl, rfl, hlc, hcr, hcb, hgr, hsz, hbr⟩ := hrel
        clear HC B1 b4
        by_cases hlt : j < ps.length
        · obtain ⟨g, o, va', vc', pa', pc', rfl, hgo, hx, c0, c1', c2, c3, c4⟩ := part_cells (H8.out.keep (Keeps.of_grown hgr.out fun k hk e => hk.1 e.symm)) (TreesR.keep (Keeps.of_grown hgr.out fun k hk e => hk.1 e.symm) _ _ H9.out) (List.getElem?_eq_getElem hlt)
          have hszp := sz_get ps j _ (List.getElem?_eq_getElem hlt)
          have hpl := plainL_get ps j _ HP.out (List.getElem?_eq_getElem hlt)
          obtain ⟨rc, hrb, hrs⟩ := hcb.out (by intro h; rw [h] at hlt; simp at hlt)
          have HX := Lib.hid hx
          have HPL := Lib.hid hpl
          have HRB := Lib.hid hrb
          have HRS := Lib.hid hrs
          clear hx hpl hrb hrs hcr hcb
          have HNEW := Lib.hid (show vv ++ Tg.encL (ps.take (j + 1)) 2 = lc ++ Tg.enc ps[j] 2 by rw [encL_take hlt, hlc.out, List.append_assoc])
          have HLC := Lib.hid (show lc.length + (Tg.enc ps[j] 2).length + L1.length + 9 ≤ 140737488355328 by
            have h1 := HLEN.out
            have h2 := encL_take_le ps (j + 1) 2
            have h3 := congrArg List.length HNEW.out
            simp only [List.length_append] at h3
            omega)
          go_wp2_with fail
          refine (IH.out ps[j] _ _ 2 rc _ lc _ (by omega) HPL.out rfl (by omega) (TreeR.keep (Keeps.of_below (below_new _) _) _ _ (TreeR.weaken (fun k hk => ?_) _ _ HX.out)) (HRB.out.alloc _) (by have := HLC.out; unfold lim; omega)).mono ?_
          · rcases HRS.out with rfl | ⟨g3, rfl, hg3⟩
            · simp
            · intro e
              injection e with e
              have := hk.2
              have := G1.out.size
              omega
          rintro e w3 ⟨v3, r3, rfl, hb3, hg3, hr3⟩
          rw [← HNEW.out] at hb3
          obtain ⟨lc3, hlc3⟩ : ∃ x, x = vv ++ Tg.encL (ps.take (j + 1)) 2 := ⟨_, rfl⟩
          rw [← hlc3] at hb3
          have HLC3 := Lib.hid hlc3
          clear hlc3
          obtain ⟨a3, c3', rfl, hc3⟩ :=  hb3.shape
          have HB3 := Lib.hid hb3
          have HRS3 := Lib.hid (RowStep.trans HRS.out (Nat.le_trans hsz.out (by simp)) hr3)
          have hne1 : r1 = none ∨ r1 ≠ rc := by
            rcases HRS.out with rfl | ⟨g3, rfl, hg3⟩
            · cases r1 <;> simp
            · cases hr1 : r1 with
              | none => exact .inl rfl
              | some g1 =>
                right
                intro e
                injection e with e
                have := HLT1.out g1 hr1
                omega
          have HG3 := Lib.hid (show w.grownBy w3 row by
            rcases HRS.out with rfl | ⟨g3, rfl, hg3'⟩
            · exact grown_trans (grown_trans hgr.out (grown_alloc _ _ _)) (grown_any hg3)
            · exact grown_new' (grown_trans hgr.out (grown_alloc _ _ _)) hg3 (by have := G1.out.size; omega))
          have HBR3 := Lib.hid ((hbr.out.alloc _).grown hg3 hne1)
          have HSZ3 := Lib.hid (Nat.le_trans hsz.out (Nat.le_trans (by simp) hg3.size))
          have HCR3 := Lib.hid (BytesR.weaken (ok' := fun k => r1 ≠ some k) (fun k hk e => by
            rcases HRS3.out with h | ⟨g4, h, hg4⟩
            · rw [h] at hk; cases hk
            · rw [h] at hk
              injection hk with hk
              have := HLT1.out k e
              omega) (hb3.reads (by have := HLC.out; rw [HLC3.out, HNEW.out, List.length_append]; unfold lim; omega)))
          clear hb3 hg3 hr3 hne1 HX HRB HRS
          go_wp2_with fail
          go_roundw
          case rel => exact ⟨j + 1, lc3, a3, c3', by omega, by go_num, rfl, HLC3, HCR3, fun _ => ⟨r3, HB3.out, HRS3.out⟩, HG3, HSZ3, HBR3⟩
          case measure => simp [intOf]; omega
        · skip
          have HLC := Lib.hid (show lc = vv ++ Tg.encL ps 2 by rw [hlc.out, show j = ps.length by omega, List.take_length])
          have HLN := Lib.hid (show L1.length + (Tg.body lc 2).length + 9 ≤ 140737488355328 by rw [HLC.out]; exact HLEN.out.1)
          have HFIN := Lib.hid (show l ++ Tg.enc (.mk c tg false vv ps) 2 = L1 ++ Tg.body lc 2 by rw [HEND.out, HL1.out, HLC.out, List.append_assoc])
          have hlcl := body_le lc 2
          clear hlc hcb H8 H9 IH HP HEND HL1 HLEN
          have HBD := Lib.hid (show Tg.body lc 2 = Tg.size lc.length 2 ++ lc by simp [Tg.body])
          have HSL := Lib.hid (show L1.length + (Tg.size lc.length 2).length + lc.length + 9 ≤ 140737488355328 by have := HLN.out; rw [HBD.out, List.length_append] at this; omega)
          have hsl := size_le lc.length 2
          go_wp2_with fail
          refine (size_any lc.length 2 _ rfl r1 _ L1 _ (by have := HLN.out; unfold lim; omega) (by omega) hbr.out (by have := HSL.out; unfold lim; omega)).mono ?_
          rintro e w3 ⟨v3, r3, rfl, hb3, hg3, hr3⟩
          obtain ⟨L3, hL3⟩ : ∃ x, x = L1 ++ Tg.size lc.length 2 := ⟨_, rfl⟩
          rw [← hL3] at hb3
          have HL3 := Lib.hid hL3
          have hL3l : L3.length = L1.length + (Tg.size lc.length 2).length := by rw [hL3, List.length_append]
          have HL3L := Lib.hid hL3l
          clear hL3 hL3l
          obtain ⟨a3, c3', rfl, hc3⟩ := hb3.shape
          have HB3 := Lib.hid hb3
          have HC3 := Lib.hid (BytesR.src (hcr.out.step hg3 hr3))
          obtain ⟨hg4, hr4⟩ := next_append hgr.out R1X.out (grown_refl _ _) hg3 hr3
          have HG4 := Lib.hid hg4
          have HR4 := Lib.hid hr4
          clear hb3 hg3 hr3 hg4 hr4
          go_wp2_with (at_builtin; refine Stop.mk ?_)
          refine Stop.of (wp_append rfl _ _ rfl rfl rfl HB3.out HC3.out rfl (by have := HSL.out; rw [HL3L.out]; omega) ?_)
          intro v4 w4 r4 hb4 hg4 hr4
          obtain ⟨hg5, hr5⟩ := next_append HG4.out HR4.out (grown_refl _ _) hg4 hr4
          have HB4 := Lib.hid hb4
          have HG5 := Lib.hid hg5
          have HR5 := Lib.hid hr5
          clear hb4 hg4 hr4 hg5 hr5
          go_wp2_with fail
          go_ret
          rw [HFIN.out, HBD.out, ← List.append_assoc, ← HL3.out]
          exact ⟨_, r4, rfl, HB4.out, HG5.out, HR5.out⟩
end Go.Proofs.YthonjbaeadbhdaaDoor
