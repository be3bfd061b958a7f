/- Contract of tags.Parse. -/
import Derived.Test.YthonjbaeadbhdaaDoorTagsParse
namespace Go.Proofs.YthonjbaeadbhdaaDoor
open Go.RowKit

theorem ptop_fail0 {w X : World} (hX : X.heap[w.heap.size]? = some (.cells #[.int .u8 0, .int .u32 0, .bool false, .slice none 0 0, .slice none 0 0] 36 (0, 0))) (hb : Below w.heap.size w X) {a : Act} {k : Nat} (h4 : a.tmps[2]? = some (.pointer (some ⟨w.heap.size, 0, none⟩))) (h5 : a.tmps[3]? = some (.int .i64 k)) (hd : a.defers = [])
    {r : Tg.Tree × Nat} (hr : r = (.mk 0 0 false [] [], k)) :
    bodyPost Tryd.prog Tryd.f14 (DecPost w r) .ret a X := by
  obtain ⟨a0, a1, a2, a3, a4⟩ := five_cells hX
  subst hr
  exact bodyPost_ret (v := .tuple #[zeroT, .int .i64 k]) (by simp [zeroT, results, Tryd.results14, go_sem, h4, h5, a0, a1, a2, a3, a4]) hd ⟨_, rfl, hb, zeroT_R _ _⟩

theorem ptop_fail {w X : World} {o0 o1 o2 o3 o4 : Value} (hX : X.heap[w.heap.size]? = some (.cells #[o0, o1, o2, o3, o4] 36 (0, 0))) (hb : Below w.heap.size w X) {a : Act} {k : Nat} (h4 : a.tmps[2]? = some (.pointer (some ⟨w.heap.size, 0, none⟩))) (h5 : a.tmps[3]? = some (.int .i64 k)) (hd : a.defers = [])
    {r : Tg.Tree × Nat} (hr : r = (.mk 0 0 false [] [], k)) :
    bodyPost Tryd.prog Tryd.f14 (DecPost w r) .ret a (((((X.setCell ⟨w.heap.size, 0, none⟩ (.int .u8 0)).setCell ⟨w.heap.size, 1, none⟩ (.int .u32 0)).setCell ⟨w.heap.size, 2, none⟩ (.bool false)).setCell ⟨w.heap.size, 3, none⟩ (.slice none 0 0)).setCell ⟨w.heap.size, 4, none⟩ (.slice none 0 0)) := by
  obtain ⟨W, hW, z0, zk, zs, zo, zt, zu⟩ := five_stores X w.heap.size hX (.int .u8 0) (.int .u32 0) (.bool false) (.slice none 0 0) (.slice none 0 0)
  rw [← hW]
  obtain ⟨a0, a1, a2, a3, a4⟩ := five_cells z0
  subst hr
  exact bodyPost_ret (v := .tuple #[zeroT, .int .i64 k]) (by simp [zeroT, results, Tryd.results14, go_sem, h4, h5, a0, a1, a2, a3, a4]) hd ⟨_, rfl, hb.trans ⟨zo, zt, zu, by omega, fun k hk => zk k (by omega)⟩, zeroT_R _ _⟩

theorem ptop_failA {w X : World} {o0 o1 o2 o3 o4 : Value} (o : Obj) (hX : X.heap[w.heap.size]? = some (.cells #[o0, o1, o2, o3, o4] 36 (0, 0))) (hb : Below w.heap.size w X) {a : Act} {k : Nat} (h4 : a.tmps[2]? = some (.pointer (some ⟨w.heap.size, 0, none⟩))) (h5 : a.tmps[3]? = some (.int .i64 k)) (hd : a.defers = [])
    {r : Tg.Tree × Nat} (hr : r = (.mk 0 0 false [] [], k)) :
    bodyPost Tryd.prog Tryd.f14 (DecPost w r) .ret a ((((((X.setCell ⟨w.heap.size, 0, none⟩ (.int .u8 0)).setCell ⟨w.heap.size, 1, none⟩ (.int .u32 0)).setCell ⟨w.heap.size, 2, none⟩ (.bool false)).setCell ⟨w.heap.size, 3, none⟩ (.slice none 0 0)).setCell ⟨w.heap.size, 4, none⟩ (.slice none 0 0)).alloc o) := by
  obtain ⟨W, hW, z0, zk, zs, zo, zt, zu⟩ := five_stores X w.heap.size hX (.int .u8 0) (.int .u32 0) (.bool false) (.slice none 0 0) (.slice none 0 0)
  rw [← hW]
  have hlt := lt_of_block hX
  exact ptop_fail0 (heap_alloc z0 o) (hb.trans ((show Below w.heap.size X W from ⟨zo, zt, zu, by omega, fun k hk => zk k (by omega)⟩).trans ((below_new o).mono (by omega)))) h4 h5 hd hr

set_option maxRecDepth 100000 in
set_option maxHeartbeats 1000000 in
theorem parse_top (s : List UInt8) (w : World) (henv : Env w) (hs : s.length ≤ lim) : Calls Tryd.prog 14 #[.string ⟨s.toArray⟩] w (DecPost w (Tg.parseT s)) := by
  have HE := Lib.hid henv
  have hsz : (⟨s.toArray⟩ : ByteArray).size = s.length := by simp [ByteArray.size]
  have henvlt := henv.lt
  unfold lim at hs
  clear henv
  by_cases hlen : 1048576 < s.length
  · have HF := Lib.hid (show Tg.parseT s = (.mk 0 0 false [] [], 3) by rw [Tg.parseT, if_pos hlen])
    go_enter Tryd.func14, Tryd.ntmps14
    go_wp2_with fail
    exact ptop_fail0 (k := 3) (alloc_new w _) (below_new _) rfl rfl rfl HF.out
  have HP := Lib.hid (show Tg.parseT s = (match Tg.parseP 16 0 s with
      | some (t, _, []) => if Tg.check t = 0 then (t, 0) else (.mk 0 0 false [] [], 4)
      | _ => (.mk 0 0 false [] [], 4)) by
    rw [Tg.parseT, if_neg hlen]
    rfl)
  go_enter Tryd.func14, Tryd.ntmps14
  go_wp2_with fail
  have hA := alloc_second w (.cells #[.int .u8 0, .int .u32 0, .bool false, .slice none 0 0, .slice none 0 0] 36) (.cells #[.string ⟨s.toArray⟩, .int .i64 0] 84)
  have hZ := heap_alloc (alloc_new w (.cells #[.int .u8 0, .int .u32 0, .bool false, .slice none 0 0, .slice none 0 0] 36)) (.cells #[.string ⟨s.toArray⟩, .int .i64 0] 84)
  have hG : w.grownBy ((w.alloc (.cells #[.int .u8 0, .int .u32 0, .bool false, .slice none 0 0, .slice none 0 0] 36)).alloc (.cells #[.string ⟨s.toArray⟩, .int .i64 0] 84)) none := grown_trans (grown_alloc _ _ _) (grown_alloc _ _ _)
  have hs1 : w.heap.size + 2 = ((w.alloc (.cells #[.int .u8 0, .int .u32 0, .bool false, .slice none 0 0, .slice none 0 0] 36)).alloc (.cells #[.string ⟨s.toArray⟩, .int .i64 0] 84)).heap.size := by simp
  generalize ((w.alloc (.cells #[.int .u8 0, .int .u32 0, .bool false, .slice none 0 0, .slice none 0 0] 36)).alloc (.cells #[.string ⟨s.toArray⟩, .int .i64 0] 84)) = w1 at hA hZ hG hs1 ⊢
  have HZ := Lib.hid hZ
  have HG := Lib.hid hG
  have HS := Lib.hid hs1
  refine (parse_any 16 1 (w.heap.size + 1) s 0 w1 (by omega) (by omega) (by omega) (by omega) hA (HE.out.keep hG (by simp) (by simp) (by simp)) (by omega) (by omega) (by omega)).mono ?_
  rintro e w2 ⟨hg2, hp⟩
  have HZ2 := Lib.hid (heap_grown hg2 hZ (by intro e; injection e with e; omega))
  have HG2 := Lib.hid (below_of_grown (grown_new hG hg2 (by omega)))
  have hs2 := hg2.size
  clear hA hZ hG hg2 hs1
  obtain ⟨res, hres⟩ : ∃ r, r = Tg.parseP 16 0 s := ⟨_, rfl⟩
  rw [← hres] at hp HP
  clear hres
  obtain ⟨z0, z1, z2, z3, z4⟩ := five_cells HZ2.out
  obtain ⟨y0, y1, y2, y3, y4⟩ := five_free HZ2.out
  have hzl := lt_of_block HZ2.out
  cases res with
  | none =>
    obtain ⟨c6, tg6, b6, va6, vn6, vc6, pa6, pn6, pc6, rfl⟩ := hp
    have HF := Lib.hid (show Tg.parseT s = (.mk 0 0 false [] [], 4) by rw [HP.out])
    go_wp2_with fail
    exact ptop_failA (k := 4) _ HZ2.out HG2.out rfl rfl rfl HF.out
  | some q =>
    obtain ⟨t, n6, r6⟩ := q
    obtain ⟨x6, rfl, ht6, hrs6⟩ := hp
    obtain ⟨va, vc, pa, pc, rfl⟩ := ht6.form
    have HT := Lib.hid ht6
    have HR := Lib.hid hrs6
    have c0 := cell_of hrs6 0
    simp at c0
    have hrl := lt_of_block hrs6
    clear ht6 hrs6
    cases r6 with
    | cons y r6 =>
      have HF := Lib.hid (show Tg.parseT s = (.mk 0 0 false [] [], 4) by rw [HP.out])
      go_wp2_with fail
      exact ptop_failA (k := 4) _ HZ2.out HG2.out rfl rfl rfl HF.out
    | nil =>
      go_wp2_with fail
      refine (check_any t _ _ (TreeR.keep (Keeps.any (below_new _)) _ _ HT.out.any)).mono ?_
      rintro e w3 ⟨rfl, hb3⟩
      have HG3 := Lib.hid (HG2.out.trans ((below_step (below_new _) hb3).mono (by omega)))
      have HZ3 := Lib.hid ((hb3.block _ (by simp; omega)).trans (heap_alloc HZ2.out (.cells #[.int .u8 t.cls, .int .u32 t.tag, .bool t.built, .slice va t.val.length vc, .slice pa t.parts.length pc] 36)))
      have HX3 := Lib.hid ((hb3.block _ (by simp)).trans (alloc_new w2 (.cells #[.int .u8 t.cls, .int .u32 t.tag, .bool t.built, .slice va t.val.length vc, .slice pa t.parts.length pc] 36)))
      have hs3 := hb3.size
      have hs3' : w2.heap.size < w3.heap.size := by simp at hs3; omega
      have HB3 := Lib.hid (show Below w2.heap.size w2 w3 from below_step (below_new _) hb3)
      clear hb3 hs3 z0 z1 z2 z3 z4 y0 y1 y2 y3 y4
      obtain ⟨z0, z1, z2, z3, z4⟩ := five_cells HZ3.out
      obtain ⟨y0, y1, y2, y3, y4⟩ := five_free HZ3.out
      obtain ⟨x0, x1, x2, x3, x4⟩ := five_cells HX3.out
      by_cases hc : Tg.check t = 0
      · have HF := Lib.hid (show Tg.parseT s = (t, 0) by rw [HP.out]; simp only [hc, if_true])
        rw [hc]
        clear hc
        go_wp2_with fail
        obtain ⟨W, hW, p0, pk, ps', po, pt, pu⟩ := five_stores w3 w.heap.size HZ3.out (.int .u8 t.cls) (.int .u32 t.tag) (.bool t.built) (.slice va t.val.length vc) (.slice pa t.parts.length pc)
        rw [← hW]
        clear hW
        obtain ⟨a0, a1, a2, a3, a4⟩ := five_cells p0
        refine bodyPost_ret (v := .tuple #[.agg #[.int .u8 t.cls, .int .u32 t.tag, .bool t.built, .slice va t.val.length vc, .slice pa t.parts.length pc], .int .i64 0]) (by simp [zeroT, results, Tryd.results14, go_sem, a0, a1, a2, a3, a4]) rfl ?_
        rw [HF.out]
        refine ⟨_, rfl, HG3.out.trans ⟨po, pt, pu, by omega, fun k hk => pk k (by omega)⟩, ?_⟩
        have hk2 : Keeps (fun k => w1.heap.size ≤ k ∧ k < w2.heap.size) w2 W := fun k hk hl => (pk k (by have := HS.out; omega)).trans (HB3.out.block k hk.2)
        exact ((HT.out.weaken_lt (Nat.le_refl _)).keep hk2).weaken fun k hk => by have := HS.out; omega
      · have hx : ((Tg.check t : Int) != 0) = true := by simp; omega
        have HF := Lib.hid (show Tg.parseT s = (.mk 0 0 false [] [], 4) by rw [HP.out]; simp only [hc, if_false])
        clear hc
        go_wp2_with fail
        exact ptop_fail (k := 4) HZ3.out HG3.out rfl rfl rfl HF.out
end Go.Proofs.YthonjbaeadbhdaaDoor
