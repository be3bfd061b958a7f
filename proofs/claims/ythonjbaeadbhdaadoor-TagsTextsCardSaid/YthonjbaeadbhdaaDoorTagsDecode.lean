/- Contracts of tags.Same, tags.Decode. -/
import Derived.Test.YthonjbaeadbhdaaDoorTagsSame
import Derived.Test.YthonjbaeadbhdaaDoorTagsCheck
namespace Go.Proofs.YthonjbaeadbhdaaDoor
open Go.RowKit

set_option maxRecDepth 100000 in
set_option maxHeartbeats 1000000 in
theorem same_top (t u : Tg.Tree) (x y : Value) (w : World) (ht : TreeR AnyB w t x) (hu : TreeR AnyB w u y) : Calls Tryd.prog 17 #[x, y] w (BoolPost w (Tg.sameT t u)) := by
  have HT := Lib.hid ht
  have HU := Lib.hid hu
  obtain ⟨va, vc, pa, pc, rfl⟩ := ht.form
  obtain ⟨va', vc', pa', pc', rfl⟩ := hu.form
  have BB := Lib.hid (show ∀ (o o' : Obj), Below w.heap.size w ((w.alloc o).alloc o') from fun o o' => (below_new o).trans ((below_new (w := w.alloc o) o').mono (by simp)))
  clear ht hu
  have HS := Lib.hid (show Tg.sameT t u = (decide (Tg.check t = 0) && decide (Tg.check u = 0) && Tg.same t u) from rfl)
  go_enter Tryd.func17, Tryd.ntmps17
  go_wp2_with fail
  refine (check_any t _ _ (TreeR.keep (Keeps.any (BB.out _ _)) _ _ HT.out)).mono ?_
  rintro e w2 ⟨rfl, hb2⟩
  have B2 := Lib.hid (below_step (BB.out _ _) hb2)
  have C2 := Lib.hid hb2
  have hs2 := hb2.size
  have hs2' : w.heap.size + 1 < w2.heap.size := by simp at hs2; omega
  clear hb2
  obtain ⟨y0, hy0⟩ : ∃ o : Obj, o = .cells #[.int .u8 t.cls, .int .u32 t.tag, .bool t.built, .slice va t.val.length vc, .slice pa t.parts.length pc] 36 (0, 0) := ⟨_, rfl⟩
  obtain ⟨y1, hy1⟩ : ∃ o : Obj, o = .cells #[.int .u8 u.cls, .int .u32 u.tag, .bool u.built, .slice va' u.val.length vc', .slice pa' u.parts.length pc'] 36 (0, 0) := ⟨_, rfl⟩
  have h0 : w2.heap[w.heap.size]? = some y0 := (C2.out.block _ (by simp; omega)).trans (by rw [hy0]; exact heap_alloc (alloc_new _ _) _)
  have h1 : w2.heap[w.heap.size + 1]? = some y1 := (C2.out.block _ (by simp)).trans (by rw [hy1]; simpa using alloc_new (w.alloc (.cells #[.int .u8 t.cls, .int .u32 t.tag, .bool t.built, .slice va t.val.length vc, .slice pa t.parts.length pc] 36)) (.cells #[.int .u8 u.cls, .int .u32 u.tag, .bool u.built, .slice va' u.val.length vc', .slice pa' u.parts.length pc'] 36))
  rw [hy0] at h0
  rw [hy1] at h1
  have H0 := Lib.hid h0
  have H1 := Lib.hid h1
  obtain ⟨b0, b1, b2, b3, b4⟩ := five_cells h1
  clear hy0 hy1 h0 h1 hs2
  by_cases hc : Tg.check t = 0
  · have HC := Lib.hid hc
    rw [hc]
    clear hc
    go_wp2_with fail
    refine (check_any u _ _ (TreeR.keep (Keeps.any B2.out) _ _ HU.out)).mono ?_
    rintro e w3 ⟨rfl, hb3⟩
    have B3 := Lib.hid (below_step B2.out hb3)
    have h0 := (hb3.block _ (by omega)).trans H0.out
    have h1 := (hb3.block _ (by omega)).trans H1.out
    obtain ⟨a0, a1, a2, a3, a4⟩ := five_cells h0
    obtain ⟨b0, b1, b2, b3, b4⟩ := five_cells h1
    clear hb3 h0 h1
    by_cases hc : Tg.check u = 0
    · have HC' := Lib.hid hc
      rw [hc]
      clear hc
      go_wp2_with fail
      refine (same_any (sz t) t u _ _ _ (Nat.le_refl _) (TreeR.keep (Keeps.any B3.out) _ _ HT.out) (TreeR.keep (Keeps.any B3.out) _ _ HU.out)).mono ?_
      rintro e w4 ⟨rfl, hb4⟩
      have B4 := Lib.hid (below_step B3.out hb4)
      have HF := Lib.hid (show Tg.sameT t u = Tg.same t u by rw [HS.out, HC.out, HC'.out]; rfl)
      clear hb4
      go_wp2_with fail
      go_ret
      rw [HF.out]
      exact ⟨rfl, B4.out⟩
    · have HF := Lib.hid (show Tg.sameT t u = false by rw [HS.out]; simp [hc])
      have hx : ((Tg.check u : Int) == 0) = false := by
        rw [beq_eq_false_iff_ne]
        omega
      clear hc
      go_wp2_with fail
      go_ret
      rw [HF.out]
      exact ⟨rfl, B3.out⟩
  · have HF := Lib.hid (show Tg.sameT t u = false by rw [HS.out]; simp [hc])
    have hx : ((Tg.check t : Int) == 0) = false := by
      rw [beq_eq_false_iff_ne]
      omega
    clear hc
    go_wp2_with fail
    go_ret
    rw [HF.out]
    exact ⟨rfl, B2.out⟩

/-- What 'Decode' computes. -/
def Tg.decT (b : List UInt8) : Tg.Tree × Nat :=
  if (Tg.firstT b).2.2 ≠ 0 then (.mk 0 0 false [] [], (Tg.firstT b).2.2) else if (Tg.firstT b).2.1 < b.length then (.mk 0 0 false [] [], 4) else ((Tg.firstT b).1, 0)
def DecPost (w : World) (r : Tg.Tree × Nat) (e : Ending) (w' : World) : Prop :=
  ∃ x, e = .returned (.tuple #[x, .int .i64 r.2]) ∧ Below w.heap.size w w' ∧ TreeR (fun k => w.heap.size ≤ k) w' r.1 x

theorem dec_end {w w2 W : World} (hb : Below w.heap.size w w2) (zk : ∀ k, k ≠ w.heap.size → W.heap[k]? = w2.heap[k]?) (zs : W.heap.size = w2.heap.size) (zo : W.os = w2.os) (zt : W.tape = w2.tape) (zu : W.output = w2.output) (o : Obj) : Below w.heap.size w2 (W.alloc o) := by
  have h1 : Below w.heap.size w2 W := ⟨zo, zt, zu, by omega, fun k hk => zk k (by omega)⟩
  exact h1.trans ((below_new o).mono (by have := hb.size; omega))

set_option maxRecDepth 100000 in
set_option maxHeartbeats 1000000 in
theorem decode_any (v : Value) (b : List UInt8) (w : World) (h : BytesR AnyB w v b) : Calls Tryd.prog 21 #[v] w (DecPost w (Tg.decT b)) := by
  have HB := Lib.hid h
  obtain ⟨a, c, rfl, hc, hl, hs⟩ := h
  unfold lim at hl
  clear hs
  have HD := Lib.hid (show Tg.decT b = (match Tg.firstT b with | (t, n, k) => if k ≠ 0 then (.mk 0 0 false [] [], k) else if n < b.length then (.mk 0 0 false [] [], 4) else (t, 0)) from rfl)
  go_enter Tryd.func21, Tryd.ntmps21
  go_wp2_with fail
  refine (first_any _ b _ (HB.out.keep (Keeps.any (below_new _)))).mono ?_
  generalize Tg.firstT b = r at HD
  obtain ⟨t, n, k⟩ := r
  rintro e w2 ⟨x, rfl, hb2, ht2⟩
  change TreeR _ _ t _ at ht2
  obtain ⟨va, vc, pa, pc, rfl⟩ := ht2.form
  have HT2 := Lib.hid ht2
  have HB2 := Lib.hid (below_step (below_new _) hb2)
  have hs2 := hb2.size
  have hs2' : w.heap.size < w2.heap.size := by simp at hs2; omega
  have H0 := Lib.hid ((hb2.block _ (by simp)).trans (alloc_new w (.cells #[.int .u8 0, .int .u32 0, .bool false, .slice none 0 0, .slice none 0 0] 36)))
  obtain ⟨a0, a1, a2, a3, a4⟩ := five_cells H0.out
  obtain ⟨f0, f1, f2, f3, f4⟩ := five_free H0.out
  clear ht2 hb2 hs2
  by_cases hk : k = 0
  · subst hk
    by_cases hn : n < b.length
    · have HF := Lib.hid (show Tg.decT b = (.mk 0 0 false [] [], 4) by rw [HD.out]; simp [hn])
      go_wp2_with fail
      obtain ⟨W, hW, z0, zk, zs, zo, zt, zu⟩ := five_stores w2 w.heap.size H0.out (.int .u8 0) (.int .u32 0) (.bool false) (.slice none 0 0) (.slice none 0 0)
      rw [← hW]
      clear hW a0 a1 a2 a3 a4
      have z1 := heap_alloc z0 (.cells #[.int .u8 t.cls, .int .u32 t.tag, .bool t.built, .slice va t.val.length vc, .slice pa t.parts.length pc] 36)
      obtain ⟨a0, a1, a2, a3, a4⟩ := five_cells z1
      have B := HB2.out.trans (dec_end HB2.out zk zs zo zt zu (.cells #[.int .u8 t.cls, .int .u32 t.tag, .bool t.built, .slice va t.val.length vc, .slice pa t.parts.length pc] 36))
      refine bodyPost_ret (v := .tuple #[zeroT, .int .i64 4]) (by simp [zeroT, results, Tryd.results21, go_sem, a0, a1, a2, a3, a4]) rfl ?_
      rw [HF.out]
      exact ⟨_, rfl, B, zeroT_R _ _⟩
    · have HF := Lib.hid (show Tg.decT b = (t, 0) by rw [HD.out]; simp [hn])
      go_wp2_with fail
      obtain ⟨W, hW, z0, zk, zs, zo, zt, zu⟩ := five_stores w2 w.heap.size H0.out (.int .u8 t.cls) (.int .u32 t.tag) (.bool t.built) (.slice va t.val.length vc) (.slice pa t.parts.length pc)
      rw [← hW]
      clear hW a0 a1 a2 a3 a4
      have z1 := heap_alloc z0 (.cells #[.int .u8 t.cls, .int .u32 t.tag, .bool t.built, .slice va t.val.length vc, .slice pa t.parts.length pc] 36)
      obtain ⟨a0, a1, a2, a3, a4⟩ := five_cells z1
      have B := HB2.out.trans (dec_end HB2.out zk zs zo zt zu (.cells #[.int .u8 t.cls, .int .u32 t.tag, .bool t.built, .slice va t.val.length vc, .slice pa t.parts.length pc] 36))
      refine bodyPost_ret (v := .tuple #[.agg #[.int .u8 t.cls, .int .u32 t.tag, .bool t.built, .slice va t.val.length vc, .slice pa t.parts.length pc], .int .i64 0]) (by simp [zeroT, results, Tryd.results21, go_sem, a0, a1, a2, a3, a4]) rfl ?_
      rw [HF.out]
      refine ⟨_, rfl, B, ?_⟩
      have h1 := (HT2.out.weaken (ok' := fun k => w.heap.size < k) fun k hk => by simp at hk; omega).keep (w' := W.alloc (.cells #[.int .u8 t.cls, .int .u32 t.tag, .bool t.built, .slice va t.val.length vc, .slice pa t.parts.length pc] 36)) fun k hk hl => by
        rw [Below.heap_alloc _ _ _ (by omega)]
        exact zk k (by omega)
      exact h1.weaken fun k hk => by omega
  · have hx : (!(k : Int) == 0) = true := by simp; omega
    have HF := Lib.hid (show Tg.decT b = (.mk 0 0 false [] [], k) by rw [HD.out]; simp [hk])
    go_wp2_with fail
    obtain ⟨W, hW, z0, zk, zs, zo, zt, zu⟩ := five_stores w2 w.heap.size H0.out (.int .u8 0) (.int .u32 0) (.bool false) (.slice none 0 0) (.slice none 0 0)
    rw [← hW]
    clear hW a0 a1 a2 a3 a4
    have z1 := heap_alloc z0 (.cells #[.int .u8 t.cls, .int .u32 t.tag, .bool t.built, .slice va t.val.length vc, .slice pa t.parts.length pc] 36)
    obtain ⟨a0, a1, a2, a3, a4⟩ := five_cells z1
    have B := HB2.out.trans (dec_end HB2.out zk zs zo zt zu (.cells #[.int .u8 t.cls, .int .u32 t.tag, .bool t.built, .slice va t.val.length vc, .slice pa t.parts.length pc] 36))
    refine bodyPost_ret (v := .tuple #[zeroT, .int .i64 k]) (by simp [zeroT, results, Tryd.results21, go_sem, a0, a1, a2, a3, a4]) rfl ?_
    rw [HF.out]
    exact ⟨_, rfl, B, zeroT_R _ _⟩
end Go.Proofs.YthonjbaeadbhdaaDoor
