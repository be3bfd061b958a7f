/- Contracts of tags.First and tags.Decode. -/
import Derived.Test.YthonjbaeadbhdaaDoorTagsElem
import Derived.Defers
import Derived.Recover
namespace Go.Proofs.YthonjbaeadbhdaaDoor
open Go.RowKit

def zeroT : Value := .agg #[.int .u8 0, .int .u32 0, .bool false, .slice none 0 0, .slice none 0 0]

set_option maxRecDepth 100000 in
theorem catch_raised (p0 p1 p2 : Nat) (n : Int) (w : World) {a b c d e f g : Value} (h0 : w.heap[p0]? = some (.cells #[a, b, c, d, e] 36 (0, 0))) (h1 : w.heap[p1]? = some (.cells #[f] 3 (0, 0))) (h2 : w.heap[p2]? = some (.cells #[g] 25 (0, 0))) (h01 : p0 < p1) (h12 : p1 < p2) (older : List PanicEntry) :
    CallsD Tryd.prog 42 #[.pointer (some ⟨p0, 0, none⟩), .pointer (some ⟨p1, 0, none⟩), .pointer (some ⟨p2, 0, none⟩)] (.panicking ({ v := .iface 25 (.int .i64 n), recovered := false } :: older)) w fun e u' w' =>
      e = .returned (.tuple #[]) ∧ u' = .panicking ({ v := .iface 25 (.int .i64 n), recovered := true } :: older) ∧ w' = ((((((w.setCell ⟨p0, 0, none⟩ (.int .u8 0)).setCell ⟨p0, 1, none⟩ (.int .u32 0)).setCell ⟨p0, 2, none⟩ (.bool false)).setCell ⟨p0, 3, none⟩ (.slice none 0 0)).setCell ⟨p0, 4, none⟩ (.slice none 0 0)).setCell ⟨p1, 0, none⟩ (.int .i64 0)).setCell ⟨p2, 0, none⟩ (.int .i64 n) := by
  obtain ⟨a0, a1, a2, a3, a4⟩ := five_cells h0
  obtain ⟨f0, f1, f2, f3, f4⟩ := five_free h0
  have b0 := cell_of h1 0
  have c0 := cell_of h2 0
  have g1 := free_of h1 0
  have g2 := free_of h2 0
  simp at b0 c0
  clear h0 h1 h2
  have hta : ∀ (v : Value) (T : TypeId) (w : World), (Instr.typeAssert (.iface 25 v) T 25 true).run Tryd.prog w = .ok (.tuple #[v, .bool true]) w := fun v T w => by
    simp [Instr.typeAssert, run_underlying Tryd.underlying25]
  refine callsD_of_wpS Tryd.func42 rfl fun c₀ cs hu => ?_
  apply wpS_seq
  apply wpS_region
  simp [wpOpsS, go_sem, recoverD, hu, Tryd.ntmps42, Exit.thenS]
  refine wpS_of_wp ?_
  simp only [Array.replicate_succ, Array.replicate_zero, List.push_toArray, List.append_toArray, List.nil_append, List.cons_append, List.setIfInBounds_toArray, List.set_cons_zero, List.set_cons_succ]
  go_wp2_with fail
  simp [bodyPostS, results, Tryd.results42]

theorem catch_nothing (a b c : Value) (w : World) :
    CallsD Tryd.prog 42 #[a, b, c] .returning w fun e u' w' => e = .returned (.tuple #[]) ∧ u' = .returning ∧ w' = w := by
  refine callsD_of_wpS Tryd.func42 rfl fun c₀ cs hu => ?_
  apply wpS_seq
  apply wpS_region
  simp [wpOpsS, go_sem, recoverD, hu, Tryd.ntmps42, Exit.thenS]
  refine wpS_of_wp ?_
  simp only [Array.replicate_succ, Array.replicate_zero, List.push_toArray, List.append_toArray, List.nil_append, List.cons_append, List.setIfInBounds_toArray, List.set_cons_zero, List.set_cons_succ]
  go_wp2_with fail
  cases c₀
  simp_all [bodyPostS, results, Tryd.results42]

theorem zeroT_R (ok : Nat → Prop) (w : World) : TreeR ok w (.mk 0 0 false [] []) zeroT := by
  simp only [TreeR]
  exact ⟨by omega, by omega, by simp, by simp, none, 0, none, 0, rfl, by simp, by simp, .inl rfl, [], .inl rfl, rfl⟩
theorem st_os (w : World) (a : Addr) (v : Value) : (w.setCell a v).os = w.os := rfl
theorem st_tape (w : World) (a : Addr) (v : Value) : (w.setCell a v).tape = w.tape := rfl
theorem st_out (w : World) (a : Addr) (v : Value) : (w.setCell a v).output = w.output := rfl
theorem heap_set1 {w : World} {g : Nat} {o : Value} {t : TypeId} (h : w.heap[g]? = some (.cells #[o] t (0, 0))) (v : Value) : (w.setCell ⟨g, 0, none⟩ v).heap[g]? = some (.cells #[v] t (0, 0)) := by simpa using heap_set h 0 v
/-- The world behind the stores of the three results. -/
theorem seven_stores (w : World) (p0 p1 p2 : Nat) {o0 o1 o2 o3 o4 o5 o6 : Value} (h0 : w.heap[p0]? = some (.cells #[o0, o1, o2, o3, o4] 36 (0, 0))) (h1 : w.heap[p1]? = some (.cells #[o5] 3 (0, 0))) (h2 : w.heap[p2]? = some (.cells #[o6] 25 (0, 0))) (h01 : p0 < p1) (h12 : p1 < p2) (a b c d e f g : Value) :
    ∃ W, W = ((((((w.setCell ⟨p0, 0, none⟩ a).setCell ⟨p0, 1, none⟩ b).setCell ⟨p0, 2, none⟩ c).setCell ⟨p0, 3, none⟩ d).setCell ⟨p0, 4, none⟩ e).setCell ⟨p1, 0, none⟩ f).setCell ⟨p2, 0, none⟩ g ∧
      W.heap[p0]? = some (.cells #[a, b, c, d, e] 36 (0, 0)) ∧ W.heap[p1]? = some (.cells #[f] 3 (0, 0)) ∧ W.heap[p2]? = some (.cells #[g] 25 (0, 0)) ∧
      Below p0 w W ∧ (∀ k, p2 < k → W.heap[k]? = w.heap[k]?) ∧ W.heap.size = w.heap.size := by
  have n01 : p0 ≠ p1 := by omega
  have n12 : p1 ≠ p2 := by omega
  have n02 : p0 ≠ p2 := by omega
  refine ⟨_, rfl, ?_, ?_, ?_, ?_, ?_, by simp⟩
  · rw [Below.heap_setCell _ _ _ _ n02, Below.heap_setCell _ _ _ _ n01]
    have q := heap_set (heap_set (heap_set (heap_set (heap_set h0 0 a) 1 b) 2 c) 3 d) 4 e
    simpa using q
  · rw [Below.heap_setCell _ _ _ _ n12]
    refine heap_set1 (o := o5) ?_ _
    rw [Below.heap_setCell _ _ _ _ n01.symm, Below.heap_setCell _ _ _ _ n01.symm, Below.heap_setCell _ _ _ _ n01.symm, Below.heap_setCell _ _ _ _ n01.symm, Below.heap_setCell _ _ _ _ n01.symm]
    exact h1
  · refine heap_set1 (o := o6) ?_ _
    rw [Below.heap_setCell _ _ _ _ n12.symm, Below.heap_setCell _ _ _ _ n02.symm, Below.heap_setCell _ _ _ _ n02.symm, Below.heap_setCell _ _ _ _ n02.symm, Below.heap_setCell _ _ _ _ n02.symm, Below.heap_setCell _ _ _ _ n02.symm]
    exact h2
  · refine ⟨by simp only [st_os], by simp only [st_tape], by simp only [st_out], by simp, fun k hk => ?_⟩
    have m0 : k ≠ p0 := by omega
    have m1 : k ≠ p1 := by omega
    have m2 : k ≠ p2 := by omega
    rw [Below.heap_setCell _ _ _ _ m2, Below.heap_setCell _ _ _ _ m1, Below.heap_setCell _ _ _ _ m0, Below.heap_setCell _ _ _ _ m0, Below.heap_setCell _ _ _ _ m0, Below.heap_setCell _ _ _ _ m0, Below.heap_setCell _ _ _ _ m0]
  · intro k hk
    have m0 : k ≠ p0 := by omega
    have m1 : k ≠ p1 := by omega
    have m2 : k ≠ p2 := by omega
    rw [Below.heap_setCell _ _ _ _ m2, Below.heap_setCell _ _ _ _ m1, Below.heap_setCell _ _ _ _ m0, Below.heap_setCell _ _ _ _ m0, Below.heap_setCell _ _ _ _ m0, Below.heap_setCell _ _ _ _ m0, Below.heap_setCell _ _ _ _ m0]
theorem five_stores (w : World) (p0 : Nat) {o0 o1 o2 o3 o4 : Value} {T : TypeId} (h0 : w.heap[p0]? = some (.cells #[o0, o1, o2, o3, o4] T (0, 0))) (a b c d e : Value) :
    ∃ W, W = ((((w.setCell ⟨p0, 0, none⟩ a).setCell ⟨p0, 1, none⟩ b).setCell ⟨p0, 2, none⟩ c).setCell ⟨p0, 3, none⟩ d).setCell ⟨p0, 4, none⟩ e ∧
      W.heap[p0]? = some (.cells #[a, b, c, d, e] T (0, 0)) ∧ (∀ k, k ≠ p0 → W.heap[k]? = w.heap[k]?) ∧ W.heap.size = w.heap.size ∧ W.os = w.os ∧ W.tape = w.tape ∧ W.output = w.output := by
  refine ⟨_, rfl, ?_, fun k m0 => ?_, by simp, by simp only [st_os], by simp only [st_tape], by simp only [st_out]⟩
  · have q := heap_set (heap_set (heap_set (heap_set (heap_set h0 0 a) 1 b) 2 c) 3 d) 4 e
    simpa using q
  · rw [Below.heap_setCell _ _ _ _ m0, Below.heap_setCell _ _ _ _ m0, Below.heap_setCell _ _ _ _ m0, Below.heap_setCell _ _ _ _ m0, Below.heap_setCell _ _ _ _ m0]
/-- What 'First' computes. -/
def Tg.firstT (b : List UInt8) : Tg.Tree × Nat × Nat := match Tg.firstD b with | .error k => (.mk 0 0 false [] [], 0, k) | .ok (t, n) => (t, n, 0)
def FirstPost (w : World) (r : Tg.Tree × Nat × Nat) (e : Ending) (w' : World) : Prop :=
  ∃ x, e = .returned (.tuple #[x, .int .i64 r.2.1, .int .i64 r.2.2]) ∧ Below w.heap.size w w' ∧ TreeR (fun k => w.heap.size ≤ k) w' r.1 x

set_option maxRecDepth 100000 in
set_option maxHeartbeats 1000000 in
theorem first_any (v : Value) (b : List UInt8) (w : World) (h : BytesR AnyB w v b) : Calls Tryd.prog 20 #[v] w (FirstPost w (Tg.firstT b)) := by
  have HB := Lib.hid h
  obtain ⟨a, c, rfl, hc, hl, hs⟩ := h
  unfold lim at hl
  clear hs
  have hmf : ∀ (fn : Fn) (first cap : Array Value) (w : World), (Instr.makeFunc fn first cap).run Tryd.prog w = .ok (.func fn first cap) w := fun _ _ _ _ => rfl
  by_cases hlen : 65536 < b.length
  · have HF := Lib.hid (show Tg.firstT b = (.mk 0 0 false [] [], 0, 3) by simp [Tg.firstT, Tg.firstD, hlen])
    go_enter_defers Tryd.func20, Tryd.ntmps20
    go_wp2_with fail
    simp [bodyPostD, Leaves, settle, results, Tryd.results20, go_sem]
    rw [HF.out]
    exact ⟨_, rfl, (below_new _).trans ((below_new _).mono (by simp)) |>.trans ((below_new _).mono (by simp; omega)), zeroT_R _ _⟩
  · go_enter_defers Tryd.func20, Tryd.ntmps20
    go_wp2_with fail
    generalize hw3 : (((w.alloc (.cells #[.int .u8 0, .int .u32 0, .bool false, .slice none 0 0, .slice none 0 0] 36)).alloc (.cells #[.int .i64 0] 3)).alloc (.cells #[.int .i64 0] 25)) = w3
    have s3 : w3.heap.size = w.heap.size + 1 + 1 + 1 := by rw [← hw3]; simp
    have b3 : Below w.heap.size w w3 := by
      rw [← hw3]
      exact (below_new _).trans ((below_new _).mono (by simp)) |>.trans ((below_new _).mono (by simp; omega))
    have x0 : w3.heap[w.heap.size]? = some (.cells #[.int .u8 0, .int .u32 0, .bool false, .slice none 0 0, .slice none 0 0] 36 (0, 0)) := by
      rw [← hw3]
      exact heap_alloc (heap_alloc (alloc_new _ _) _) _
    have x1 : w3.heap[w.heap.size + 1]? = some (.cells #[.int .i64 0] 3 (0, 0)) := by
      rw [← hw3]
      exact heap_alloc (by simpa using alloc_new (w.alloc (.cells #[.int .u8 0, .int .u32 0, .bool false, .slice none 0 0, .slice none 0 0] 36)) (.cells #[.int .i64 0] 3)) _
    have x2 : w3.heap[w.heap.size + 1 + 1]? = some (.cells #[.int .i64 0] 25 (0, 0)) := by
      rw [← hw3]
      simpa using alloc_new ((w.alloc (.cells #[.int .u8 0, .int .u32 0, .bool false, .slice none 0 0, .slice none 0 0] 36)).alloc (.cells #[.int .i64 0] 3)) (.cells #[.int .i64 0] 25)
    have hst : St (w3.alloc (.cells #[.slice a b.length c, .int .i64 0] 98)) (w.heap.size + 1 + 1 + 1) b 0 := by
      rw [← s3]
      obtain ⟨a', c', he, h1, h2, h3⟩ := HB.out
      injection he with e1 e2 e3
      subst e1
      subst e3
      refine ⟨a, c, alloc_new _ _, h1, h2, ?_⟩
      have h4 := (SliceAt.weaken_lt (Nat.le_refl _) h3).keep (w' := w3.alloc (.cells #[.slice a b.length c, .int .i64 0] 98)) fun k hk hl => by
        rw [Below.heap_alloc _ _ _ (by omega)]
        exact b3.block k hl
      exact h4.weaken fun k hk => by have := hk.2; omega
    refine (element_any 16 1 (w.heap.size + 1 + 1 + 1) b 0 _ (by omega) (by omega) (by omega) hst).mono ?_
    intro e w4 hp
    have X0 := Lib.hid x0
    have X1 := Lib.hid x1
    have X2 := Lib.hid x2
    have B3 := Lib.hid b3
    have S3 := Lib.hid s3
    clear hw3 x0 x1 x2 b3 s3 hst
    obtain ⟨hg4, hp⟩ := hp
    have y0 := heap_grown hg4 (heap_alloc X0.out _) (by simp; omega)
    have y1 := heap_grown hg4 (heap_alloc X1.out _) (by simp)
    have y2 := heap_grown hg4 (heap_alloc X2.out _) (by simp)
    have s3 := S3.out
    have HB4 := Lib.hid (show Below w.heap.size w w4 from B3.out.trans (below_of_grown (grown_new' (row := none) (grown_alloc w3 (.cells #[.slice a b.length c, .int .i64 0] 98) none) hg4 (by omega)) |>.mono (by omega)))
    generalize hres : Tg.elemD 16 0 b = res at hp
    rcases res with k | ⟨t, n, r⟩
    · simp only at hp
      subst hp
      have HF := Lib.hid (show Tg.firstT b = (.mk 0 0 false [] [], 0, k) by simp [Tg.firstT, Tg.firstD, hlen, hres])
      unfold raised
      have Y0 := Lib.hid y0
      have Y1 := Lib.hid y1
      have Y2 := Lib.hid y2
      clear y0 y1 y2
      go_wp2_with fail
      refine leaves_cons (f := 42) (args := #[.pointer (some ⟨w.heap.size, 0, none⟩), .pointer (some ⟨w.heap.size + 1, 0, none⟩), .pointer (some ⟨w.heap.size + 1 + 1, 0, none⟩)]) (by simp) (by simp [go_sem]) ?_
      refine (catch_raised _ _ _ k w4 Y0.out Y1.out Y2.out (by omega) (by omega) []).mono ?_
      rintro e u' w'' ⟨rfl, rfl, hw⟩
      obtain ⟨W, hW, z0, z1, z2, zb, -, -⟩ := seven_stores w4 _ _ _ Y0.out Y1.out Y2.out (by omega) (by omega) (.int .u8 0) (.int .u32 0) (.bool false) (.slice none 0 0) (.slice none 0 0) (.int .i64 0) (.int .i64 k)
      rw [← hW] at hw
      clear hW
      subst hw
      obtain ⟨a0, a1, a2, a3, a4⟩ := five_cells z0
      have b0 := cell_of z1 0
      have c0 := cell_of z2 0
      simp at b0 c0
      simp [Leaves, settle, results, Tryd.results20, go_sem, a0, a1, a2, a3, a4, b0, c0]
      rw [HF.out]
      exact ⟨_, rfl, HB4.out.trans zb, zeroT_R _ _⟩
    · obtain ⟨x, rfl, ht, hst4⟩ := hp
      have HF := Lib.hid (show Tg.firstT b = (t, b.length - r.length, 0) by simp [Tg.firstT, Tg.firstD, hlen, hres])
      obtain ⟨va, vc, pa, pc, rfl⟩ := ht.form
      obtain ⟨ra, rc, hh4, q1, q2, q3⟩ := hst4
      obtain ⟨d0, d1⟩ := St.two hh4
      obtain ⟨f0, f1, f2, f3, f4⟩ := five_free y0
      obtain ⟨e0, e1, e2, e3, e4⟩ := five_cells y0
      have HT := Lib.hid ht
      have Y0 := Lib.hid y0
      have Y1 := Lib.hid y1
      have Y2 := Lib.hid y2
      have g1 := free_of y1 0
      have g2 := free_of y2 0
      clear y0 y1 y2 q3 ht
      go_wp2_with fail
      obtain ⟨W5, hW5, z0, zk, zs⟩ := five_stores w4 w.heap.size Y0.out (.int .u8 t.cls) (.int .u32 t.tag) (.bool t.built) (.slice va t.val.length vc) (.slice pa t.parts.length pc)
      rw [← hW5]
      have z1 := (zk (w.heap.size + 1) (by omega)).trans Y1.out
      have z2 := (zk (w.heap.size + 1 + 1) (by omega)).trans Y2.out
      obtain ⟨k0, -⟩ := St.two ((zk (w.heap.size + 1 + 1 + 1) (by omega)).trans hh4)
      obtain ⟨a0, a1, a2, a3, a4⟩ := five_cells z0
      obtain ⟨b0, b1, b2, b3, b4⟩ := five_free z0
      have c1 := cell_of z1 0
      have c2 := cell_of z2 0
      have c3 := free_of z1 0
      have c4 := free_of z2 0
      simp at c1 c2
      have HW5 := Lib.hid (And.intro hW5 zk)
      have HZ := Lib.hid (And.intro z0 (And.intro z1 z2))
      have HZS := Lib.hid zs
      clear hW5 zk z0 z1 z2 zs e0 e1 e2 e3 e4 f0 f1 f2 f3 f4 g1 g2 d0 d1 hh4
      go_region
      have hrl := (Tg.elemD_good 16 0 b t n r hres).2.2
      have hsub : ((b.length : Int) - (r.length : Int)) = ((b.length - r.length : Nat) : Int) := by omega
      rw [hsub]
      go_wp2_with fail
      refine leaves_cons (f := 42) (args := #[.pointer (some ⟨w.heap.size, 0, none⟩), .pointer (some ⟨w.heap.size + 1, 0, none⟩), .pointer (some ⟨w.heap.size + 1 + 1, 0, none⟩)]) (by simp) (by simp [go_sem]) ?_
      refine (catch_nothing _ _ _ _).mono ?_
      rintro e u' w'' ⟨rfl, rfl, hw⟩
      obtain ⟨W, hW, y0, y1, y2, yb, yk, -⟩ := seven_stores W5 _ _ _ HZ.out.1 HZ.out.2.1 HZ.out.2.2 (by omega) (by omega) (.int .u8 t.cls) (.int .u32 t.tag) (.bool t.built) (.slice va t.val.length vc) (.slice pa t.parts.length pc) (.int .i64 ((b.length - r.length : Nat) : Int)) (.int .i64 0)
      have hwp : wrap64 ((b.length - r.length : Nat) : Int) = ((b.length - r.length : Nat) : Int) := by
        unfold wrap64
        first | omega | exact IntWalk.i64_in _ (by omega)
      rw [hwp, ← hW] at hw
      clear hW
      subst hw
      obtain ⟨a0, a1, a2, a3, a4⟩ := five_cells y0
      have b0 := cell_of y1 0
      have c0 := cell_of y2 0
      simp at b0 c0
      simp [Leaves, settle, results, Tryd.results20, go_sem, a0, a1, a2, a3, a4, b0, c0]
      rw [HF.out]
      have hzs := HZS.out
      have hs4 := hg4.size
      simp at hs4
      have hk4 : ∀ k, w3.heap.size < k → W.heap[k]? = w4.heap[k]? := fun k hk => (yk k (by omega)).trans (HW5.out.2 k (by omega))
      refine ⟨_, rfl, ?_, ?_⟩
      · refine ⟨?_, ?_, ?_, ?_, fun k hk => ?_⟩
        · exact (show W.drew.os = W.os from rfl).trans (yb.os.trans (hzs.2.1.trans HB4.out.os))
        · exact (show W.drew.tape = W.tape from rfl).trans (yb.tape.trans (hzs.2.2.1.trans HB4.out.tape))
        · exact (show W.drew.output = W.output from rfl).trans (yb.output.trans (hzs.2.2.2.trans HB4.out.output))
        · have := yb.size
          have := HB4.out.size
          show w.heap.size ≤ W.heap.size
          omega
        · show W.heap[k]? = _
          rw [yb.block k hk, HW5.out.2 k (by omega), HB4.out.block k hk]
      · have h1 : TreeR (fun k => w3.heap.size < k) w4 t _ := HT.out.weaken fun k hk => by simp at hk; omega
        have h2 := h1.keep (w' := W.drew) fun k hk _ => hk4 k hk
        exact h2.weaken fun k hk => by omega
end Go.Proofs.YthonjbaeadbhdaaDoor
