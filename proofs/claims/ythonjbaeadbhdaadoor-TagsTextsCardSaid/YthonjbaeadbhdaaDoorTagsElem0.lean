/- The decoder's element: plain steps, and the callees that copy. -/
import Derived.Test.YthonjbaeadbhdaaDoorTagsLength
namespace Go.Proofs.YthonjbaeadbhdaaDoor
open Go.RowKit

theorem tree_info : (Tryd.prog.info? 36).map (fun i => (i.zero, i.size, i.bytes)) = some (some (.agg #[.int .u8 0, .int .u32 0, .bool false, .slice none 0 0, .slice none 0 0]), 5, 64) := by kernel_rfl
/-- The cells of a tree's value. -/
def tcells (p : Tg.Tree) (va : Option Addr) (vc : Nat) (pa : Option Addr) (pc : Nat) : List Value :=
  [.int .u8 p.cls, .int .u32 p.tag, .bool p.built, .slice va p.val.length vc, .slice pa p.parts.length pc]
theorem src_tree (w : World) (a b c d e : Value) (ha : a.oneCell' = true) (hb : b.oneCell' = true) (hc : c.oneCell' = true) (hd : d.oneCell' = true) (he : e.oneCell' = true) {g : Nat} (hg : g = w.heap.size) :
    Src (w.alloc (.cells #[a, b, c, d, e] 36)) 5 (.slice (some ⟨g, 0, none⟩) 1 1) 1 [a, b, c, d, e] := by
  subst hg
  refine ⟨rfl, ?_, _, _, rfl, .inr ⟨w.heap.size, 0, rfl, trivial, fun j u hu => ?_⟩⟩
  · intro u hu
    simp only [List.mem_cons, List.not_mem_nil, or_false] at hu
    rcases hu with rfl | rfl | rfl | rfl | rfl <;> assumption
  · rw [Nat.zero_add, cell_of (alloc_new w _)]
    simpa using hu

theorem clip_trees (ok : Nat → Prop) (a : Option Addr) (n c : Nat) (w : World) (h : n ≤ c) (hn : n ≤ lim) : Calls Tryd.prog 53 #[.slice a n c] w fun e w' => w = w' ∧ e = .returned (.slice a n n) := by
  unfold lim at hn
  go_enter Tryd.func53, Tryd.ntmps53
  go_wp2_with fail
  go_ret
  exact ⟨rfl, rfl⟩

set_option maxRecDepth 100000 in
theorem clone_bytes2 (ok : Nat → Prop) (v : Value) (l : List UInt8) (w : World) (h : BytesR ok w v l) : Calls Tryd.prog 65 #[v] w (NewPost w l) := by
  have HS := Lib.hid (BytesR.src (h.keep (Keeps.of_below (below_new (.cells #[] 5)) _)))
  have HR := Lib.hid h
  obtain ⟨a, c, rfl, h2, h3, h4⟩ := h
  unfold lim at h3
  have hnil := fun w => Lib.run_eql_slice_nil (P := Tryd.prog) w 22 5 a l.length c 0 0 Tryd.underlying22
  cases a with
  | none =>
    have HL := Lib.hid (show l = [] by
      rcases h4 with h | ⟨g, o, h, _⟩
      · simpa [bvs] using h
      · cases h)
    clear h4
    go_enter Tryd.func65, Tryd.ntmps65
    go_wp2_with fail
    go_ret
    rw [HL.out]
    exact ⟨_, none, rfl, Buf.nil _ _, Below.refl _ _, .inl rfl⟩
  | some ad =>
    clear h4
    go_enter Tryd.func65, Tryd.ntmps65
    go_wp2_with (at_builtin; refine Stop.mk ?_)
    refine Stop.of (wp_append rfl _ _ rfl rfl rfl (row := none) (l := []) (Buf.nil _ _) HS.out rfl (by simp; omega) ?_)
    intro v' w' row' hb' hg' hr'
    simp only [List.nil_append] at hb'
    have H1 := Lib.hid hb'
    have H2 := Lib.hid (below_step (below_new _) (below_of_grown hg'))
    have H3 := Lib.hid (RowStep.trans (w := w) (RowStep.refl _ _) (by simp) hr')
    clear hb' hg' hr'
    go_wp2_with fail
    go_ret
    exact ⟨_, row', rfl, H1.out, H2.out, H3.out⟩

theorem and32 (n : Nat) (h : n < 256) : n &&& 32 = n / 32 % 2 * 32 := by
  have k : ∀ m : Fin 256, m.val &&& 32 = m.val / 32 % 2 * 32 := by decide +kernel
  exact k ⟨n, h⟩
theorem elemD_full (d n : Nat) (r : List UInt8) (h : 1024 ≤ n) : Tg.elemD d n r = .error 3 := by
  cases d with
  | zero => rfl
  | succ d => simp [Tg.elemD, h]
theorem elemD_nil (d n : Nat) (h : n < 1024) : Tg.elemD (d + 1) n [] = .error 4 := by simp [Tg.elemD, show ¬ 1024 ≤ n by omega]
theorem elemD_tag_err {d n : Nat} {x : UInt8} {r : List UInt8} {k : Nat} (h : n < 1024) (ht : Tg.tagD x.toNat r = .error k) : Tg.elemD (d + 1) n (x :: r) = .error k := by
  simp [Tg.elemD, show ¬ 1024 ≤ n by omega, ht]
theorem elemD_zero {d n t : Nat} {x : UInt8} {r r2 : List UInt8} (h : n < 1024) (ht : Tg.tagD x.toNat r = .ok (t, r2)) (h0 : x.toNat / 64 = 0 ∧ t = 0) : Tg.elemD (d + 1) n (x :: r) = .error 4 := by
  simp [Tg.elemD, show ¬ 1024 ≤ n by omega, ht, h0.1, h0.2]
theorem elemD_len_err {d n t k : Nat} {x : UInt8} {r r2 : List UInt8} (h : n < 1024) (ht : Tg.tagD x.toNat r = .ok (t, r2)) (h0 : ¬ (x.toNat / 64 = 0 ∧ t = 0)) (hl : Tg.lengthD (decide (x.toNat / 32 % 2 = 1)) r2 = .error k) : Tg.elemD (d + 1) n (x :: r) = .error k := by
  simp only [Tg.elemD, show ¬ 1024 ≤ n by omega, ht, hl, if_neg h0, if_false]
theorem elemD_ok {d n t : Nat} {x : UInt8} {r r2 r3 : List UInt8} {m : Option Nat} (h : n < 1024) (ht : Tg.tagD x.toNat r = .ok (t, r2)) (h0 : ¬ (x.toNat / 64 = 0 ∧ t = 0)) (hl : Tg.lengthD (decide (x.toNat / 32 % 2 = 1)) r2 = .ok (m, r3)) :
    Tg.elemD (d + 1) n (x :: r) = Tg.contentD (Tg.elemD d) (x.toNat / 64) t (decide (x.toNat / 32 % 2 = 1)) (n + 1) m r3 := by
  simp only [Tg.elemD, show ¬ 1024 ≤ n by omega, ht, hl, if_neg h0, if_false]
end Go.Proofs.YthonjbaeadbhdaaDoor
