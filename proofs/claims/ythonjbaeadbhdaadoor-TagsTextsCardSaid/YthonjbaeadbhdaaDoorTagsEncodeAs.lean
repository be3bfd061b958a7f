/- Contracts of tags.EncodeAs and Encode. -/
import Derived.Test.YthonjbaeadbhdaaDoorTagsEncode
namespace Go.Proofs.YthonjbaeadbhdaaDoor
open Go.RowKit

mutual
theorem meas_sz : ∀ (t : Tg.Tree) (d n : Nat), (Tg.meas t d n).1 = true → (Tg.meas t d n).2 = n + sz t
  | .mk _ _ _ _ ps, d, n => by
    simp only [Tg.meas]
    split
    · simp
    · intro h
      rw [measL_sz ps (d + 1) (n + 1) h]
      simp only [sz]
      omega
theorem measL_sz : ∀ (ps : List Tg.Tree) (d n : Nat), (Tg.measL ps d n).1 = true → (Tg.measL ps d n).2 = n + szL ps
  | [], _, n => by simp [Tg.measL, szL]
  | p :: ps, d, n => by
    have h1 := meas_sz p d n
    simp only [Tg.measL]
    split
    · rename_i m h
      rw [h] at h1
      intro h2
      rw [measL_sz ps d m h2]
      have := h1 rfl
      simp only at this
      simp only [szL]
      omega
    · simp
end
theorem check_zero {t : Tg.Tree} (h : Tg.check t = 0) : Tg.plain t = true ∧ sz t ≤ 1024 := by
  unfold Tg.check at h
  split at h
  · omega
  · rename_i h1
    split at h
    · omega
    · rename_i h2
      have h3 : (Tg.meas t 1 0).1 = true := by simpa using h1
      have h4 := meas_sz t 1 0 h3
      have h5 := meas_true t 1 0 (by omega) h3
      exact ⟨by simpa using h2, by omega⟩
theorem size_pos (n : Nat) : 1 ≤ (Tg.size n 0).length := by
  unfold Tg.size
  split
  · omega
  · split
    · simp
    · simp
theorem body_len (l : List UInt8) (g : Nat) : (Tg.body l g).length ≤ l.length + 9 := by
  unfold Tg.body
  split
  · simp
  · have := size_le l.length g
    simp
    omega
mutual
theorem enc_le : ∀ (t : Tg.Tree) (f : Nat), (Tg.enc t f).length ≤ (Tg.enc t 0).length + 9 * sz t
  | .mk c t b v ps, f => by
    have h1 := encL_le ps (Tg.sub b f)
    have h2 := body_len (v ++ Tg.encL ps (Tg.sub b f)) (Tg.sub b f)
    rw [enc_zero]
    simp only [Tg.enc, List.length_append, sz] at h2 ⊢
    omega
theorem encL_le : ∀ (ps : List Tg.Tree) (f : Nat), (Tg.encL ps f).length ≤ (Tg.encL ps 0).length + 9 * szL ps
  | [], f => by simp [Tg.encL]
  | p :: ps, f => by
    have h1 := enc_le p f
    have h2 := encL_le ps f
    simp only [Tg.encL, List.length_append, szL]
    omega
end
/-- Bytes of the call's own, without spare capacity, and an error. -/
def EncPost (w : World) (r : List UInt8 × Nat) (e : Ending) (w' : World) : Prop :=
  ∃ a, e = .returned (.tuple #[.slice a r.1.length r.1.length, .int .i64 r.2]) ∧ Below w.heap.size w w' ∧ BytesR (fun k => w.heap.size ≤ k) w' (.slice a r.1.length r.1.length) r.1

set_option maxRecDepth 100000 in
set_option maxHeartbeats 1000000 in
theorem encodeAs_any (t : Tg.Tree) (x : Value) (f : Nat) (F : Int) (w : World) (hF : F = f) (hf : f < 256) (ht : TreeR AnyB w t x) : Calls Tryd.prog 19 #[x, .int .u8 F] w (EncPost w (Tg.encodeAs t f)) := by
  subst hF
  have HT := Lib.hid ht
  obtain ⟨va, vc, pa, pc, rfl⟩ := ht.form
  clear ht
  have HE : Hid (Tg.encodeAs t f = if Tg.check t ≠ 0 then ([], Tg.check t) else if 2 < f then ([], 1) else if 65536 < Tg.long t then ([], 3) else if 65536 < (Tg.enc t f).length then ([], 3) else (Tg.enc t f, 0)) := rfl
  go_enter Tryd.func19, Tryd.ntmps19
  go_wp2_with fail
  refine (check_any t _ _ (TreeR.keep (Keeps.any (below_new _)) _ _ HT.out)).mono ?_
  rintro e w1 ⟨rfl, hb⟩
  have hbox : w1.heap[w.heap.size]? = some (.cells #[.int .u8 t.cls, .int .u32 t.tag, .bool t.built, .slice va t.val.length vc, .slice pa t.parts.length pc] 36) := (hb.block _ (by simp)).trans (alloc_new _ _)
  obtain ⟨b0, b1, b2, b3, b4⟩ := five_cells hbox
  have HBOX := Lib.hid hbox
  have HB := Lib.hid (below_step (below_new _) hb)
  clear hb hbox
  have hnil : ∀ (w' : World), BytesR (fun k => w.heap.size ≤ k) w' (.slice none 0 0) [] := fun w' => ⟨none, 0, rfl, by simp, by simp, .inl rfl⟩
  have HNIL := Lib.hid hnil
  clear hnil
  by_cases hc : Tg.check t = 0
  · obtain ⟨hp, hs⟩ := check_zero hc
    have HC := Lib.hid hc
    have hc' : ((Tg.check t : Int) != 0) = false := by rw [hc]; rfl
    have HP := Lib.hid hp
    clear hc hp
    by_cases hf2 : 2 < f
    · go_wp2_with fail
      go_ret2
      rw [HE.out, if_neg (by rw [HC.out]; simp), if_pos hf2]
      exact ⟨none, rfl, HB.out, HNIL.out _⟩
    · have hf3 : f < 3 := by omega
      go_wp2_with fail
      refine (long_any (sz t) t _ w1 (Nat.le_refl _) hs (TreeR.keep (Keeps.any HB.out) _ _ HT.out)).mono ?_
      rintro e w2 ⟨rfl, hb2⟩
      obtain ⟨d0, d1, d2, d3, d4⟩ := five_cells ((hb2.block _ (lt_of_block HBOX.out)).trans HBOX.out)
      have HBOX2 := Lib.hid ((hb2.block _ (lt_of_block HBOX.out)).trans HBOX.out)
      have HB2 := Lib.hid (below_step HB.out hb2)
      clear hb2 b0 b1 b2 b3 b4
      by_cases hl : 65536 < Tg.long t
      · go_wp2_with fail
        go_ret2
        rw [HE.out, if_neg (by rw [HC.out]; simp), if_neg hf2, if_pos hl]
        exact ⟨none, rfl, HB2.out, HNIL.out _⟩
      · go_wp2_with fail
        have hle := enc_le t f
        have hlong : Tg.long t = (Tg.enc t 0).length := rfl
        refine (encode_any (sz t) t _ _ f none _ [] w2 (Nat.le_refl _) HP.out rfl hf3 (TreeR.weaken (fun _ _ => by simp) _ _ (TreeR.keep (Keeps.any HB2.out) _ _ HT.out)) (Buf.nil _ _) (by unfold lim; simp; omega)).mono ?_
        rintro e w3 ⟨v3, r3, rfl, hb3, hg3, hr3⟩
        simp only [List.nil_append] at hb3
        obtain ⟨a3, c3, rfl, hc3⟩ := hb3.shape
        have HB3 := Lib.hid (below_step HB2.out (below_of_grown hg3))
        have HR3 := Lib.hid (BytesR.weaken (ok' := fun k => w.heap.size ≤ k) (fun k hk => by
          rcases hr3 with h | ⟨g, h, hg⟩
          · rw [h] at hk; cases hk
          · rw [h] at hk
            injection hk with hk
            have := HB2.out.size
            omega) (hb3.reads (by unfold lim; omega)))
        clear hb3 hg3 hr3 d0 d1 d2 d3 d4
        have hle2 : (Tg.enc t f).length ≤ 74752 := by omega
        clear hle hlong
        by_cases hl2 : 65536 < (Tg.enc t f).length
        · go_wp2_with fail
          go_ret2
          rw [HE.out, if_neg (by rw [HC.out]; simp), if_neg hf2, if_neg hl, if_pos hl2]
          exact ⟨none, rfl, HB3.out, HNIL.out _⟩
        · go_wp2_with fail
          refine (clip_bytes _ _ _ w3 HR3.out).mono ?_
          rintro e w4 ⟨rfl, a4, rfl, hs4⟩
          have HS4 := Lib.hid hs4
          clear hs4
          go_wp2_with fail
          go_ret2
          rw [HE.out, if_neg (by rw [HC.out]; simp), if_neg hf2, if_neg hl, if_neg hl2]
          exact ⟨a4, rfl, HB3.out, ⟨a4, _, rfl, Nat.le_refl _, (by simp only []; unfold lim; omega), HS4.out⟩⟩
  · have hc' : ((Tg.check t : Int) != 0) = true := by simp; omega
    have HC := Lib.hid hc
    clear hc
    go_wp2_with fail
    go_ret2
    rw [HE.out, if_pos HC.out]
    exact ⟨none, rfl, HB.out, HNIL.out _⟩

theorem encode_top (t : Tg.Tree) (x : Value) (w : World) (ht : TreeR AnyB w t x) : Calls Tryd.prog 26 #[x] w (EncPost w (Tg.encodeAs t 0)) := by
  have HT := Lib.hid ht
  obtain ⟨va, vc, pa, pc, rfl⟩ := ht.form
  clear ht
  go_enter Tryd.func26, Tryd.ntmps26
  go_wp2_with fail
  refine (encodeAs_any t _ 0 _ _ rfl (by omega) (TreeR.keep (Keeps.any (below_new _)) _ _ HT.out)).mono ?_
  rintro e w1 ⟨a, rfl, hb, hr⟩
  have HB := Lib.hid (below_step (below_new _) hb)
  have HR := Lib.hid (BytesR.weaken (ok' := fun k => w.heap.size ≤ k) (fun k hk => by simp at hk; omega) hr)
  clear hb hr
  go_wp2_with fail
  go_ret2
  exact ⟨a, rfl, HB.out, HR.out⟩
end Go.Proofs.YthonjbaeadbhdaaDoor
