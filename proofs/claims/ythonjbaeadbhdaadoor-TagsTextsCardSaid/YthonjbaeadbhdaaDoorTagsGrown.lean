/- Contract of grown, and of T.Of. -/
import Derived.Test.YthonjbaeadbhdaaDoorTagsGrown0
import Derived.Test.YthonjbaeadbhdaaDoorTagsSmall
namespace Go.Proofs.YthonjbaeadbhdaaDoor
open Go.RowKit

theorem alloc_third (w : World) (a b c : Obj) : (((w.alloc a).alloc b).alloc c).heap[w.heap.size + 1 + 1]? = some c := by
  have h := alloc_second (w.alloc a) b c
  rwa [show (w.alloc a).heap.size = w.heap.size + 1 by simp] at h
theorem SliceAt.take {ok : Nat → Prop} {w : World} {a : Option Addr} {xs : List Value} (k : Nat) (h : SliceAt ok w a xs) : SliceAt ok w a (xs.take k) := by
  rcases h with h | ⟨g, o, rfl, hg, hc⟩
  · exact .inl (by rw [h]; simp)
  · refine .inr ⟨g, o, rfl, hg, fun j u hu => hc j u ?_⟩
    rw [List.getElem?_take] at hu
    split at hu
    · exact hu
    · cases hu
theorem src_take {w : World} {a : Option Addr} {l : List UInt8} {m c : Nat} (k : Nat) (hm : m = (l.take k).length) (h : SliceAt AnyB w a (bvs l)) : Src w 1 (.slice a m c) m (bvs (l.take k)) := by
  subst hm
  refine ⟨by simp [bvs_length], bvs_oneCell _, a, c, rfl, ?_⟩
  have e : bvs (l.take k) = (bvs l).take k := by simp [bvs, List.map_take]
  rw [e]
  exact h.take k
/-- What 'grown' hands back. -/
def GrownPost (w : World) (r : Tg.Tree × Nat) (e : Ending) (w' : World) : Prop :=
  ∃ x, e = .returned (.tuple #[x, .int .i64 r.2]) ∧ Below w.heap.size w w' ∧ TreeR (fun k => w.heap.size ≤ k) w' r.1 x

theorem grown_end0 {w X : World} {x0 x1 x2 x3 x4 : Value} (hX : X.heap[w.heap.size]? = some (.cells #[x0, x1, x2, x3, x4] 36 (0, 0))) (hb : Below w.heap.size w X) {a : Act} {t : Tg.Tree} {k : Nat} {K : Int} (hK : K = k)
    (h4 : a.tmps[6]? = some (.pointer (some ⟨w.heap.size, 0, none⟩))) (h5 : a.tmps[7]? = some (.int .i64 K)) (hd : a.defers = []) (ht : TreeR (fun k => w.heap.size ≤ k) X t (.agg #[x0, x1, x2, x3, x4])) {r : Tg.Tree × Nat} (hr : r = (t, k)) :
    bodyPost Tryd.prog Tryd.f29 (GrownPost w r) .ret a X := by
  obtain ⟨a0, a1, a2, a3, a4⟩ := five_cells hX
  subst hr
  subst hK
  exact bodyPost_ret (v := .tuple #[.agg #[x0, x1, x2, x3, x4], .int .i64 k]) (by simp [results, Tryd.results29, go_sem, h4, h5, a0, a1, a2, a3, a4]) hd ⟨_, rfl, hb, ht⟩
theorem grown_end {w X : World} {o0 o1 o2 o3 o4 x0 x1 x2 x3 x4 : Value} (hX : X.heap[w.heap.size]? = some (.cells #[o0, o1, o2, o3, o4] 36 (0, 0))) (hb : Below w.heap.size w X) {a : Act} {t : Tg.Tree} {k : Nat} {K : Int} (hK : K = k)
    (h4 : a.tmps[6]? = some (.pointer (some ⟨w.heap.size, 0, none⟩))) (h5 : a.tmps[7]? = some (.int .i64 K)) (hd : a.defers = []) (ht : TreeR (fun k => w.heap.size < k) X t (.agg #[x0, x1, x2, x3, x4])) {r : Tg.Tree × Nat} (hr : r = (t, k)) :
    bodyPost Tryd.prog Tryd.f29 (GrownPost w r) .ret a (((((X.setCell ⟨w.heap.size, 0, none⟩ x0).setCell ⟨w.heap.size, 1, none⟩ x1).setCell ⟨w.heap.size, 2, none⟩ x2).setCell ⟨w.heap.size, 3, none⟩ x3).setCell ⟨w.heap.size, 4, none⟩ x4) := by
  obtain ⟨W, hW, z0, zk, zs, zo, zt, zu⟩ := five_stores X w.heap.size hX x0 x1 x2 x3 x4
  rw [← hW]
  obtain ⟨a0, a1, a2, a3, a4⟩ := five_cells z0
  subst hr
  subst hK
  refine bodyPost_ret (v := .tuple #[.agg #[x0, x1, x2, x3, x4], .int .i64 k]) (by simp [results, Tryd.results29, go_sem, h4, h5, a0, a1, a2, a3, a4]) hd ⟨_, rfl, hb.trans ⟨zo, zt, zu, by omega, fun k hk => zk k (by omega)⟩, ?_⟩
  exact (TreeR.keep (fun k hk hl => zk k (by omega)) _ _ ht).weaken fun k hk => by omega
/-- The end at an element with bytes. -/
theorem grown_leaf {w w7 : World} {eb cl tg : Nat} {l : List UInt8} {row : Option Nat} {a' : Option Addr} {c' m : Nat} (hZ : w7.heap[w.heap.size]? = some (.cells #[.int .u8 0, .int .u32 0, .bool false, .slice none 0 0, .slice none 0 0] 36 (0, 0)))
    (hT : w7.heap[eb]? = some (.cells #[.int .u8 cl, .int .u32 tg, .bool false, .slice none 0 0, .slice none 0 0] 36 (0, 0))) (heb : w.heap.size < eb) (hb : Below w.heap.size w w7) (hbuf : Buf w7 row (.slice a' m c') l) (hm : m = l.length) (hrow : ∀ g, row = some g → eb < g)
    (hcl : cl < 256) (htg : tg < 4294967296) (hl : l.length ≤ lim) {a : Act} {k : Nat} {K : Int} (hK : K = k) (h4 : a.tmps[6]? = some (.pointer (some ⟨w.heap.size, 0, none⟩))) (h5 : a.tmps[7]? = some (.int .i64 K)) (hd : a.defers = []) {r : Tg.Tree × Nat} (hr : r = (.mk cl tg false l [], k)) :
    bodyPost Tryd.prog Tryd.f29 (GrownPost w r) .ret a ((((((w7.setCell ⟨eb, 3, none⟩ (.slice a' m c')).setCell ⟨w.heap.size, 0, none⟩ (.int .u8 cl)).setCell ⟨w.heap.size, 1, none⟩ (.int .u32 tg)).setCell ⟨w.heap.size, 2, none⟩ (.bool false)).setCell ⟨w.heap.size, 3, none⟩ (.slice a' m c')).setCell ⟨w.heap.size, 4, none⟩ (.slice none 0 0)) := by
  subst hm
  refine grown_end (heap_set_other hZ _ _ (by simp; omega)) (hb.setCell (by simp; omega) _) hK h4 h5 hd ?_ hr
  obtain ⟨a2, c2, h1, h2, h3, h6⟩ := hbuf.reads hl
  injection h1 with q1 q2 q3
  subst q1 q3
  simp only [TreeR]
  refine ⟨hcl, htg, hl, by simp, _, _, _, _, rfl, h2, by simp, ?_, [], .inl rfl, rfl⟩
  refine SliceAt.weaken (ok := fun k => eb < k) (fun k hk => by omega) (SliceAt.keep (fun k hk hl => Below.heap_setCell _ _ _ _ (by simp; omega)) (h6.weaken fun k hk => hrow k hk))

/-- The end at an element with parts. -/
theorem grown_built {w wc wr : World} {eb cl tg : Nat} {acc : List Tg.Tree} {row : Option Nat} {pa : Option Addr} {pc : Nat} {xs : List Value} (hk : KidsInv wc eb cl tg acc row pa pc xs wr)
    (hZ : wc.heap[w.heap.size]? = some (.cells #[.int .u8 0, .int .u32 0, .bool false, .slice none 0 0, .slice none 0 0] 36 (0, 0))) (heb : w.heap.size < eb) (hb : Below w.heap.size w wc) (hcl : cl < 256) (htg : tg < 4294967296) (hl : acc.length ≤ lim)
    {a : Act} {k : Nat} (h4 : a.tmps[6]? = some (.pointer (some ⟨w.heap.size, 0, none⟩))) (h5 : a.tmps[7]? = some (.int .i64 k)) (hd : a.defers = []) {r : Tg.Tree × Nat} (hr : r = (.mk cl tg true [] acc, k)) :
    bodyPost Tryd.prog Tryd.f29 (GrownPost w r) .ret a (((((wr.setCell ⟨w.heap.size, 0, none⟩ (.int .u8 cl)).setCell ⟨w.heap.size, 1, none⟩ (.int .u32 tg)).setCell ⟨w.heap.size, 2, none⟩ (.bool true)).setCell ⟨w.heap.size, 3, none⟩ (.slice none 0 0)).setCell ⟨w.heap.size, 4, none⟩ (.slice pa acc.length pc)) := by
  obtain ⟨h1, h2, h3, h4', h5', h6⟩ := hk
  refine grown_end ((h5'.block _ (by omega)).trans hZ) (hb.trans (h5'.mono (by omega))) rfl h4 h5 hd ?_ hr
  obtain ⟨a2, c2, e1, e2, e3⟩ := h2.reads
  injection e1 with q1 q2 q3
  subst q1 q3
  simp only [TreeR]
  exact ⟨hcl, htg, by simp, hl, _, _, _, _, rfl, by simp, e2, .inl rfl, xs, e3.weaken fun k hk => by have := h3 k hk; omega, TreesR.weaken (fun k hk => by omega) _ _ h4'⟩

set_option maxRecDepth 100000 in
set_option maxHeartbeats 2000000 in
theorem growP_step (ns : List Tg.N) (a : Option Addr) (cp : Nat) (f : Nat → Tg.Tree × Nat) (D : Int) (i : Nat) (w : World) (hD : 1 ≤ D) (hD10 : D ≤ 10) (hi : i ≤ 40) (hl : ns.length ≤ lim) (h : NsR w a ns)
    (hf : D < 10 → ∀ (j : Nat) (w1 : World), j < 40 → NsR w1 a ns → Calls Tryd.prog 29 #[.slice a ns.length cp, .int .i64 j, .int .i64 (D + 1)] w1 (GrownPost w1 (f j)))
    (hfu : ∀ j, j < 40 → (f j).2 ≤ 40) (K : Nat → Nat → List Tg.Tree × Nat) (hK : ∀ k j, K k j = if D < 10 then Tg.kids f ns.length k j [] else ([], j)) :
    Calls Tryd.prog 29 #[.slice a ns.length cp, .int .i64 i, .int .i64 D] w (GrownPost w (Tg.growN ns i K)) := by
  have H := Lib.hid h
  have HF := Lib.hid hf
  have HFU := Lib.hid hfu
  have HK := Lib.hid hK
  unfold lim at hl
  clear h hf hfu hK
  by_cases hout : ns.length ≤ i ∨ 40 ≤ i
  · have HR := Lib.hid (show ∀ K, Tg.growN ns i K = (.mk 3 1 false [] [], i + 1) from fun K => by
      unfold Tg.growN
      rcases hout with ho | ho
      · rw [List.getElem?_eq_none ho]
      · cases ns[i]? with
        | none => rfl
        | some n => simp only [if_pos ho])
    go_enter Tryd.func29, Tryd.ntmps29
    go_upto_region 1 with (fail)
    go_cut [20] (fun q w' => w' = w.alloc (.cells #[.int .u8 0, .int .u32 0, .bool false, .slice none 0 0, .slice none 0 0] 36) ∧ q = .bool true)
    case first =>
      by_cases h1 : ns.length ≤ i
      · clear hout
        go_wp2_with fail
        go_meet
        case rel => exact ⟨rfl, by simp; try omega⟩
      · have h2 : 40 ≤ i := by omega
        clear hout
        go_wp2_with fail
        go_meet
        case rel => exact ⟨rfl, by simp; try omega⟩
    case rest =>
      obtain ⟨hw, rfl⟩ := hcut
      subst hw
      clear hout
      go_wp2_with fail
      refine grown_end0 (t := .mk 3 1 false [] []) (k := i + 1) (heap_alloc (alloc_new w _) _) ((below_new _).trans ((below_new _).mono (by simp))) rfl rfl rfl rfl ?_ (HR.out K)
      simp only [TreeR]
      exact ⟨by omega, by omega, by simp, by simp, _, _, _, _, rfl, Nat.le_refl _, by simp, .inl rfl, [], .inl rfl, rfl⟩
  · have hi1 : i < ns.length := by omega
    have hi2 : i < 40 := by omega
    obtain ⟨n, hn⟩ : ∃ n, ns[i]? = some n := ⟨_, List.getElem?_eq_getElem hi1⟩
    obtain ⟨k1, k2, k3, k4, g, o, va, vc, rfl, hvl, hs, c0, c1, c2, c3, c4⟩ := H.out i n hn
    have HR := Lib.hid (show ∀ K, Tg.growN ns i K = if n.built = false then (.mk (n.cls % 4) (Tg.tagOf n) false (n.val.take 300) [], i + 1) else (.mk (n.cls % 4) (Tg.tagOf n) true [] (K (n.parts % 4) (i + 1)).1, (K (n.parts % 4) (i + 1)).2) from fun K => by
      simp only [Tg.growN, hn, if_neg (show ¬ 40 ≤ i by omega)])
    have hgl : g < w.heap.size := lt_of_cell c0
    have HS := Lib.hid hs
    have HTG := Lib.hid (show Tg.tagOf n = if n.cls % 4 = 0 ∧ n.tag % 2097152 = 0 then 2 else n.tag % 2097152 from rfl)
    unfold lim at k4
    clear hn hs hout
    obtain ⟨cl, hcl⟩ : ∃ cl, cl = n.cls % 4 := ⟨_, rfl⟩
    obtain ⟨tg, htg⟩ : ∃ tg, tg = n.tag % 2097152 := ⟨_, rfl⟩
    have hcl' : (n.cls : Int) % 4 = (cl : Int) := by omega
    have htg' : (n.tag : Int) % 2097152 = (tg : Int) := by omega
    rw [← hcl, ← htg] at HTG
    rw [← hcl] at HR
    have hcl4 : cl < 4 := by omega
    have htg4 : tg < 2097152 := by omega
    clear hcl htg
    go_enter Tryd.func29, Tryd.ntmps29
    go_upto_region 5 with (fail)
    obtain ⟨w3, hw3⟩ : ∃ w3, w3 = ((w.alloc (.cells #[.int .u8 0, .int .u32 0, .bool false, .slice none 0 0, .slice none 0 0] 36)).alloc
      (.cells #[.int .u8 n.cls, .int .u32 n.tag, .bool n.built, .slice va n.val.length vc, .int .u8 n.parts] 68)).alloc (.cells #[.int .u8 cl, .int .u32 tg, .bool n.built, .slice none 0 0, .slice none 0 0] 36) := ⟨_, rfl⟩
    have HZ3 := Lib.hid (show w3.heap[w.heap.size]? = some (.cells #[.int .u8 0, .int .u32 0, .bool false, .slice none 0 0, .slice none 0 0] 36 (0, 0)) by rw [hw3]; exact heap_alloc (heap_alloc (alloc_new _ _) _) _)
    have HN3 := Lib.hid (show w3.heap[w.heap.size + 1]? = some (.cells #[.int .u8 n.cls, .int .u32 n.tag, .bool n.built, .slice va n.val.length vc, .int .u8 n.parts] 68 (0, 0)) by rw [hw3]; exact heap_alloc (alloc_second _ _ _) _)
    have HT3 := Lib.hid (show w3.heap[w.heap.size + 1 + 1]? = some (.cells #[.int .u8 cl, .int .u32 tg, .bool n.built, .slice none 0 0, .slice none 0 0] 36 (0, 0)) by rw [hw3]; exact alloc_third _ _ _ _)
    have HB3 := Lib.hid (show Below w.heap.size w w3 by rw [hw3]; exact (below_new _).trans (((below_new _).mono (by simp)).trans ((below_new _).mono (by simp; omega))))
    have hs3 : w3.heap.size = w.heap.size + 3 := by rw [hw3]; simp
    have HS3 := Lib.hid hs3
    rw [← hw3]
    clear hw3 hs3
    obtain ⟨t0, t1, t2, t3, t4⟩ := five_cells HT3.out
    go_cut [45] (fun q w' => w' = w3 ∧ q = .bool (decide (cl = 0 ∧ tg = 0)))
    case first =>
      by_cases hc0 : cl = 0
      · by_cases ht0 : tg = 0
        · go_wp2_with fail
          go_meet
          case rel => exact ⟨rfl, by simp [hc0, ht0]⟩
        · go_wp2_with fail
          go_meet
          case rel => exact ⟨rfl, by simp [hc0, ht0]⟩
      · go_wp2_with fail
        go_meet
        case rel => exact ⟨rfl, by simp [hc0]⟩
    case rest =>
      obtain ⟨hw, rfl⟩ := hcut
      have hw' := hw.symm
      subst hw'
      go_upto_if 45 with (fail)
      go_cut [] (fun w' => w'.heap.size = w3.heap.size ∧ Hid (Below (w.heap.size + 1 + 1) w3 w') ∧ Hid (w'.heap[w.heap.size + 1 + 1]? = some (.cells #[.int .u8 cl, .int .u32 (Tg.tagOf n), .bool n.built, .slice none 0 0, .slice none 0 0] 36 (0, 0))))
      case first =>
        by_cases hb : cl = 0 ∧ tg = 0
        · rw [decide_eq_true hb]
          have HTG2 := Lib.hid (show Tg.tagOf n = 2 by rw [HTG.out, if_pos hb])
          have hf1 := free_of HT3.out 1
          clear hb
          go_wp2_with fail
          go_meet
          case rel => exact ⟨by simp, (Below.refl _ _).setCell (by simp) _, by rw [HTG2.out]; exact heap_set HT3.out 1 (.int .u32 2)⟩
        · rw [decide_eq_false hb]
          have HTG2 := Lib.hid (show Tg.tagOf n = tg by rw [HTG.out, if_neg hb])
          clear hb
          go_wp2_with fail
          go_meet
          case rel => exact ⟨rfl, Below.refl _ _, by rw [HTG2.out]; exact HT3.out⟩
      case rest =>
        obtain ⟨hsc, hbc, htc⟩ := hcut
        obtain ⟨eb, heb⟩ : ∃ eb, eb = w.heap.size + 1 + 1 := ⟨_, rfl⟩
        rw [← heb] at htc hbc ⊢
        have hebs : wc.heap.size = eb + 1 := by have := HS3.out; omega
        have HZ := Lib.hid ((hbc.out.block _ (by omega)).trans HZ3.out)
        have HN := Lib.hid ((hbc.out.block _ (by omega)).trans HN3.out)
        have HT := Lib.hid htc.out
        have HB := Lib.hid (HB3.out.trans (hbc.out.mono (by omega)))
        obtain ⟨n0, n1, n2, n3, n4⟩ := five_cells HN.out
        obtain ⟨t0, t1, t2, t3, t4⟩ := five_cells HT.out
        obtain ⟨tf0, tf1, tf2, tf3, tf4⟩ := five_free HT.out
        obtain ⟨z0, z1, z2, z3, z4⟩ := five_cells HZ.out
        obtain ⟨y0, y1, y2, y3, y4⟩ := five_free HZ.out
        have hns : w.heap.size + 1 < wc.heap.size := by omega
        clear htc hbc hsc c0 c1 c2 c3 c4 HT3 HN3 HZ3
        cases hbu : n.built
        · rw [hbu] at HR HT n2 t2 HN
          have HS1 := Lib.hid (HS.out.keep (Keeps.any HB.out))
          clear hbu
          by_cases h300 : n.val.length ≤ 300
          · have hm := Lib.hid (show n.val.length = (n.val.take 300).length by rw [List.length_take]; omega)
            go_wp2_with (at_builtin; refine Stop.mk ?_)
            have HSRC := Lib.hid (src_take (m := n.val.length) (c := vc) 300 hm.out (HS1.out.keep (Keeps.any (below_new (.cells #[] 5)))))
            refine Stop.of (wp_append rfl _ _ rfl rfl rfl (row := none) (l := []) (Buf.nil _ _) HSRC.out hm.out (by simp; omega) ?_)
            intro v' w' row' hb' hg' hr'
            obtain ⟨a', c', hv', hc'⟩ := hb'.shape
            rw [List.nil_append, ← hm.out] at hv'
            subst hv'
            have HBUF := Lib.hid (show Buf w' row' (.slice a' n.val.length c') (n.val.take 300) by
              have h0 := hb'
              rw [List.nil_append] at h0
              exact h0)
            have HBN := Lib.hid (below_step (w := wc) (below_new (.cells #[] 5)) (below_of_grown hg'))
            have HRW := Lib.hid hr'
            have HZ' := Lib.hid ((HBN.out.block _ (by omega)).trans HZ.out)
            have HT' := Lib.hid ((HBN.out.block _ (by omega)).trans HT.out)
            have HRES := Lib.hid (HR.out K)
            clear hb' hg' hr' n0 n1 n2 n3 n4 t0 t1 t2 t3 t4 tf0 tf1 tf2 tf3 tf4 z0 z1 z2 z3 z4 y0 y1 y2 y3 y4
            obtain ⟨t0, t1, t2, t3, t4⟩ := five_cells HT'.out
            obtain ⟨tf0, tf1, tf2, tf3, tf4⟩ := five_free HT'.out
            obtain ⟨z0, z1, z2, z3, z4⟩ := five_cells HZ'.out
            obtain ⟨y0, y1, y2, y3, y4⟩ := five_free HZ'.out
            rw [heb] at t0 t1 t2 t3 t4 tf0 tf1 tf2 tf3 tf4
            have hwl : w.heap.size < wc.heap.size := by omega
            have HROW := Lib.hid (show ∀ g, row' = some g → eb < g from fun g hg => by
              rcases HRW.out with h | ⟨g', h, hg'⟩
              · rw [h] at hg; cases hg
              · rw [h] at hg
                injection hg with hg
                simp at hg'
                omega)
            have HTGL := Lib.hid (show Tg.tagOf n < 4294967296 by rw [HTG.out]; split <;> omega)
            have HEB := Lib.hid heb
            clear heb
            go_wp2_with fail
            exact grown_leaf (eb := w.heap.size + 1 + 1) (k := i + 1) (l := n.val.take 300) HZ'.out (HEB.out ▸ HT'.out) (by omega) (HB.out.trans (HBN.out.mono (by omega))) HBUF.out hm.out (HEB.out ▸ HROW.out) (by omega) HTGL.out (by unfold lim; rw [← hm.out]; omega) rfl rfl rfl rfl (by rw [HRES.out]; simp)
          · have hm := Lib.hid (show 300 = (n.val.take 300).length by rw [List.length_take]; omega)
            go_wp2_with (at_builtin; refine Stop.mk ?_)
            have HSRC := Lib.hid (src_take (m := 300) (c := vc) 300 hm.out (HS1.out.keep (Keeps.any (below_new (.cells #[] 5)))))
            refine Stop.of (wp_append rfl _ _ rfl rfl rfl (row := none) (l := []) (Buf.nil _ _) HSRC.out hm.out (by simp; omega) ?_)
            intro v' w' row' hb' hg' hr'
            obtain ⟨a', c', hv', hc'⟩ := hb'.shape
            rw [List.nil_append, ← hm.out] at hv'
            subst hv'
            have HBUF := Lib.hid (show Buf w' row' (.slice a' 300 c') (n.val.take 300) by
              have h0 := hb'
              rw [List.nil_append] at h0
              exact h0)
            have HBN := Lib.hid (below_step (w := wc) (below_new (.cells #[] 5)) (below_of_grown hg'))
            have HRW := Lib.hid hr'
            have HZ' := Lib.hid ((HBN.out.block _ (by omega)).trans HZ.out)
            have HT' := Lib.hid ((HBN.out.block _ (by omega)).trans HT.out)
            have HRES := Lib.hid (HR.out K)
            clear hb' hg' hr' n0 n1 n2 n3 n4 t0 t1 t2 t3 t4 tf0 tf1 tf2 tf3 tf4 z0 z1 z2 z3 z4 y0 y1 y2 y3 y4
            obtain ⟨t0, t1, t2, t3, t4⟩ := five_cells HT'.out
            obtain ⟨tf0, tf1, tf2, tf3, tf4⟩ := five_free HT'.out
            obtain ⟨z0, z1, z2, z3, z4⟩ := five_cells HZ'.out
            obtain ⟨y0, y1, y2, y3, y4⟩ := five_free HZ'.out
            rw [heb] at t0 t1 t2 t3 t4 tf0 tf1 tf2 tf3 tf4
            have hwl : w.heap.size < wc.heap.size := by omega
            have HROW := Lib.hid (show ∀ g, row' = some g → eb < g from fun g hg => by
              rcases HRW.out with h | ⟨g', h, hg'⟩
              · rw [h] at hg; cases hg
              · rw [h] at hg
                injection hg with hg
                simp at hg'
                omega)
            have HTGL := Lib.hid (show Tg.tagOf n < 4294967296 by rw [HTG.out]; split <;> omega)
            have HEB := Lib.hid heb
            clear heb
            go_wp2_with fail
            exact grown_leaf (eb := w.heap.size + 1 + 1) (k := i + 1) (l := n.val.take 300) HZ'.out (HEB.out ▸ HT'.out) (by omega) (HB.out.trans (HBN.out.mono (by omega))) HBUF.out hm.out (HEB.out ▸ HROW.out) (by omega) HTGL.out (by unfold lim; rw [← hm.out]; omega) rfl rfl rfl rfl (by rw [HRES.out]; simp)
        · rw [hbu] at HR HT n2 t2 HN
          clear hbu HS
          obtain ⟨tg', htg'⟩ : ∃ t, t = Tg.tagOf n := ⟨_, rfl⟩
          have HTGL := Lib.hid (show tg' < 4294967296 by rw [htg', HTG.out]; split <;> omega)
          have HTG2 := Lib.hid htg'
          rw [← htg'] at HR HT t1
          clear htg'
          have HRES := Lib.hid (HR.out K)
          have HNS := Lib.hid (H.out.below HB.out)
          obtain ⟨P, hP⟩ : ∃ P, P = n.parts % 4 := ⟨_, rfl⟩
          have hPI : (n.parts : Int) % 4 = (P : Int) := by omega
          have hP4 : P < 4 := by omega
          rw [← hP] at HRES
          clear hP
          have hKI := Lib.hid (show KidsInv wc eb cl tg' [] none none 0 [] wc from ⟨HT.out, Row.nil _ _ _ _, by simp, rfl, Below.refl _ _, by omega⟩)
          clear t0 t1 t2 t3 t4 tf0 tf1 tf2 tf3 tf4 z0 z1 z2 z3 z4 y0 y1 y2 y3 y4 hns
          have hwl : w.heap.size + 1 < eb := by omega
          have HEB := Lib.hid heb
          clear heb
          go_wp2_with fail
          go_loopw [11, 10] (fun q r wr => ∃ (j nx : Nat) (acc : List Tg.Tree) (row : Option Nat) (pa : Option Addr) (pc : Nat) (xs : List Value), j ≤ P ∧ q = .int .i64 j ∧ r = .int .i64 nx ∧ nx ≤ 40 ∧ acc.length ≤ j ∧ Hid (KidsInv wc eb cl tg' acc row pa pc xs wr) ∧
            Hid ((if D < 10 then Tg.kids f ns.length (P - j) nx acc else (acc, nx)) = K P (i + 1))) (fun q _ _ => P - (intOf q).toNat)
          case atStart => exact ⟨0, i + 1, [], none, none, 0, [], by omega, rfl, by go_num, by omega, by simp, hKI.out, by rw [HK.out]; rfl⟩
          case round =>
            obtain ⟨j, nx, acc, row, pa, pc, xs, hj, rfl, rfl, hnx, hac, hki, hkk⟩ := hrel
            have HKI := Lib.hid hki.out
            have HKK := Lib.hid hkk.out
            have heb1 : eb < wr.heap.size := hki.out.2.2.2.2.2
            have HN' := Lib.hid ((hki.out.2.2.2.2.1.block _ (by omega)).trans HN.out)
            have HZ' := Lib.hid ((hki.out.2.2.2.2.1.block _ (by omega)).trans HZ.out)
            have HE' := Lib.hid hki.out.1
            clear hki hkk n0 n1 n2 n3 n4
            obtain ⟨n0, n1, n2, n3, n4⟩ := five_cells HN'.out
            obtain ⟨t0, t1, t2, t3, t4⟩ := five_cells HE'.out
            obtain ⟨tf0, tf1, tf2, tf3, tf4⟩ := five_free HE'.out
            obtain ⟨z0, z1, z2, z3, z4⟩ := five_cells HZ'.out
            obtain ⟨y0, y1, y2, y3, y4⟩ := five_free HZ'.out
            have hnr : w.heap.size + 1 < wr.heap.size := by omega
            go_upto_region 12 with (fail)
            go_cut [83] (fun q w' => w' = wr ∧ q = .bool (decide (j < P ∧ D < 10 ∧ nx < ns.length ∧ nx < 40)))
            case first =>
              by_cases h1 : j < P
              · by_cases h2 : D < 10
                · by_cases h3 : nx < ns.length
                  · by_cases h4 : nx < 40
                    · have h4' : (nx : Int) < 40 := by omega
                      go_wp2_with fail
                      go_meet
                      case rel => exact ⟨rfl, by simp; omega⟩
                    · have h4' : ¬ (nx : Int) < 40 := by omega
                      go_wp2_with fail
                      go_meet
                      case rel => exact ⟨rfl, by simp; omega⟩
                  · go_wp2_with fail
                    go_meet
                    case rel => exact ⟨rfl, by simp; omega⟩
                · go_wp2_with fail
                  go_meet
                  case rel => exact ⟨rfl, by simp; omega⟩
              · go_wp2_with fail
                go_meet
                case rel => exact ⟨rfl, by simp; omega⟩
            case rest =>
              obtain ⟨hw, rfl⟩ := hcut
              have hw' := hw.symm
              subst hw'
              by_cases hgo : j < P ∧ D < 10 ∧ nx < ns.length ∧ nx < 40
              · rw [decide_eq_true hgo]
                obtain ⟨g1, g2, g3, g4⟩ := hgo
                go_wp2_with fail
                obtain ⟨w5, hw5⟩ : ∃ w5, w5 = wr.alloc (.cells #[.int .u8 0, .int .u32 0, .bool false, .slice none 0 0, .slice none 0 0] 36) := ⟨_, rfl⟩
                have hs5 : w5.heap.size = wr.heap.size + 1 := by rw [hw5]; simp
                have H45 := Lib.hid (show Below wr.heap.size wr w5 by rw [hw5]; exact below_new _)
                have HP5 := Lib.hid (show w5.heap[wr.heap.size]? = some (.cells #[.int .u8 0, .int .u32 0, .bool false, .slice none 0 0, .slice none 0 0] 36 (0, 0)) by rw [hw5]; exact alloc_new _ _)
                rw [← hw5]
                clear hw5
                have hbw5 := HB.out.trans (HKI.out.2.2.2.2.1.mono (by omega : w.heap.size ≤ eb))
                refine (HF.out g2 nx w5 g4 (H.out.below (below_step hbw5 H45.out))).mono ?_
                have HFN := Lib.hid (HFU.out nx g4)
                have HKS := Lib.hid (show Tg.kids f ns.length (P - j) nx acc = Tg.kids f ns.length (P - (j + 1)) (f nx).2 (acc ++ [(f nx).1]) by
                  rw [show P - j = (P - (j + 1)) + 1 by omega, Tg.kids, if_pos ⟨g3, g4⟩])
                rintro e w6 ⟨x6, rfl, hb6, ht6⟩
                obtain ⟨va6, vc6, pa6, pc6, rfl⟩ := ht6.form
                obtain ⟨t6, ht6e⟩ : ∃ t, t = (f nx).1 := ⟨_, rfl⟩
                obtain ⟨n6, hn6e⟩ : ∃ t, t = (f nx).2 := ⟨_, rfl⟩
                rw [← ht6e] at ht6 HKS ⊢
                rw [← hn6e] at HKS HFN ⊢
                have HT6 := Lib.hid ht6
                have HB6 := Lib.hid hb6
                have hs6 := hb6.size
                have HP6 := Lib.hid ((hb6.block _ (by omega)).trans HP5.out)
                have HE6 := Lib.hid ((hb6.block _ (by omega)).trans ((H45.out.block _ heb1).trans HE'.out))
                clear ht6 hb6 ht6e hn6e hbw5 t0 t1 t2 t3 t4 tf0 tf1 tf2 tf3 tf4
                obtain ⟨p0, p1, p2, p3, p4⟩ := five_cells HP6.out
                obtain ⟨q0, q1, q2, q3, q4⟩ := five_free HP6.out
                obtain ⟨W, hW, o0, ok, os, oo, ot, ou⟩ := five_stores w6 wr.heap.size HP6.out (.int .u8 t6.cls) (.int .u32 t6.tag) (.bool t6.built) (.slice va6 t6.val.length vc6) (.slice pa6 t6.parts.length pc6)
                go_upto_region 16 with (fail)
                rw [← hW]
                clear hW p0 p1 p2 p3 p4 q0 q1 q2 q3 q4
                obtain ⟨p0, p1, p2, p3, p4⟩ := five_cells o0
                have HEW := Lib.hid ((ok eb (by omega)).trans HE6.out)
                obtain ⟨t0, t1, t2, t3, t4⟩ := five_cells HEW.out
                have hso := os
                have hebW : eb < W.heap.size := by omega
                have hpbW : wr.heap.size < W.heap.size := by omega
                have HOK := Lib.hid ok
                have HOO := Lib.hid (And.intro oo (And.intro ot ou))
                have HOS := Lib.hid os
                have HO0 := Lib.hid o0
                obtain ⟨i0, hi0, hz0, hz1, hz2⟩ := info_parts tree_info
                clear ok oo ot ou o0 os
                go_wp2_with (at_builtin; refine Stop.mk ?_)
                have HROW := Lib.hid (show Row 36 5 (W.alloc (.cells #[.int .u8 t6.cls, .int .u32 t6.tag, .bool t6.built, .slice va6 t6.val.length vc6, .slice pa6 t6.parts.length pc6] 36)) row (.slice pa acc.length pc) acc.length xs by
                  refine HKI.out.2.1.keep fun g hg => ?_
                  have hgl := Row.row_lt HKI.out.2.1 g hg
                  rw [Below.heap_alloc _ _ _ (by omega), HOK.out g (by omega), HB6.out.block g (by omega), H45.out.block g hgl])
                refine Stop.of (wpList_append_row rfl _ _ 34 rfl 36 i0 _ 5 64 Tryd.underlying34 hi0 hz0 hz1 hz2 rfl (by decide) row _ _ acc.length 1 xs _ rfl rfl HROW.out (src_tree W _ _ _ _ _ rfl rfl rfl rfl rfl HOS.out.symm) (by unfold maxLen; omega) (by omega) ?_)
                intro v7 w7 row7 hrow7 hg7 hr7
                obtain ⟨a7, c7, rfl, hc7, -⟩ := hrow7.shape
                have hE7 := heap_grown hg7 (heap_alloc HEW.out _) (fun e => by have := HKI.out.2.2.1 eb e.symm; omega)
                have hE7c := cell_of hE7 4
                simp at hE7c
                have hF7 := free_of hE7 4
                have HROW7 := Lib.hid hrow7
                have HG7 := Lib.hid hg7
                have HR7 := Lib.hid hr7
                clear hrow7 hg7 hr7 hE7 p0 p1 p2 p3 p4 t0 t1 t2 t3 t4 hso
                go_wp2_with fail
                go_roundw
                case rel =>
                  refine ⟨j + 1, n6, acc ++ [t6], row7, a7, c7, _, by omega, by go_num, rfl, HFN.out, by simp; omega, kids_step HKI.out rfl H45.out hs5 HB6.out HT6.out HOK.out HOS.out HOO.out HROW7.out HG7.out HR7.out, ?_⟩
                  rw [← HKK.out, if_pos g2, if_pos g2, HKS.out]
                  exact rfl
                case measure => simp [intOf]; omega
              · rw [decide_eq_false hgo]
                have HF := Lib.hid (show (acc, nx) = K P (i + 1) by
                  rw [← HKK.out]
                  by_cases h2 : D < 10
                  · rw [if_pos h2]
                    by_cases h1 : j < P
                    · rw [show P - j = (P - j - 1) + 1 by omega, Tg.kids, if_neg (fun h => hgo ⟨h1, h2, h.1, h.2⟩)]
                    · rw [show P - j = 0 by omega, Tg.kids]
                  · rw [if_neg h2])
                clear hgo
                go_wp2_with fail
                exact grown_built HKI.out HZ.out (by omega) HB.out (by omega) HTGL.out (by unfold lim; omega) rfl rfl rfl (by rw [HRES.out, ← HF.out]; simp)

theorem growP_upto (ns : List Tg.N) (lv j : Nat) (h : j < 40) : (Tg.growP ns lv j).2 ≤ 40 := (Tg.growP_built ns lv j).hupto h
theorem grown_top (ns : List Tg.N) (a : Option Addr) (cp : Nat) (hl : ns.length ≤ lim) : ∀ (lv : Nat) (D : Int) (i : Nat) (w : World), lv ≤ 9 → D = 10 - lv → i ≤ 40 → NsR w a ns →
    Calls Tryd.prog 29 #[.slice a ns.length cp, .int .i64 i, .int .i64 D] w (GrownPost w (Tg.growP ns lv i)) := by
  intro lv
  induction lv with
  | zero =>
    intro D i w _ hD hi h
    exact growP_step ns a cp (fun _ => (.mk 0 0 false [] [], 0)) D i w (by omega) (by omega) hi hl h (fun hlt => by omega) (fun _ _ => by simp) _ (fun k j => by rw [if_neg (by omega)])
  | succ lv ih =>
    intro D i w hlv hD hi h
    exact growP_step ns a cp (Tg.growP ns lv) D i w (by omega) (by omega) hi hl h (fun _ j w1 hj h1 => ih (D + 1) j w1 (by omega) (by omega) (by omega) h1) (fun j hj => growP_upto ns lv j hj) _ (fun k j => by rw [if_pos (by omega)])

/-- What 'Of' hands back. -/
def TreePost (w : World) (t : Tg.Tree) (e : Ending) (w' : World) : Prop := ∃ x, e = .returned x ∧ Below w.heap.size w w' ∧ TreeR (fun k => w.heap.size ≤ k) w' t x
set_option maxRecDepth 100000 in
set_option maxHeartbeats 1000000 in
theorem of_any (ns : List Tg.N) (a : Option Addr) (cp : Nat) (w : World) (hl : ns.length ≤ lim) (h : NsR w a ns) :
    Calls Tryd.prog 12 #[.slice a ns.length cp] w (TreePost w (Tg.ofT ns)) := by
  have H := Lib.hid h
  clear h
  go_enter Tryd.func12, Tryd.ntmps12
  go_wp2_with fail
  have HG := Lib.hid (grown_top ns a cp hl 9 1 0 _ (by omega) (by omega) (by omega) (H.out.below (below_new (w := w) (.cells #[.int .u8 0, .int .u32 0, .bool false, .slice none 0 0, .slice none 0 0] 36))))
  refine HG.out.mono ?_
  clear HG
  rintro e w2 ⟨x2, rfl, hb2, ht2⟩
  obtain ⟨va, vc, pa, pc, rfl⟩ := ht2.form
  obtain ⟨t, ht⟩ : ∃ t, t = (Tg.growP ns 9 0).1 := ⟨_, rfl⟩
  have HTE := Lib.hid (show Tg.ofT ns = t from ht.symm)
  rw [← ht] at ht2 ⊢
  have HT := Lib.hid ht2
  have HB := Lib.hid (below_step (below_new _) hb2)
  have HZ := Lib.hid ((hb2.block _ (by simp)).trans (alloc_new w (.cells #[.int .u8 0, .int .u32 0, .bool false, .slice none 0 0, .slice none 0 0] 36)))
  have hs2 := hb2.size
  have hs2' : w.heap.size < w2.heap.size := by simp at hs2; omega
  generalize (Tg.growP ns 9 0).2 = n2
  clear ht2 hb2 hs2 ht
  obtain ⟨z0, z1, z2, z3, z4⟩ := five_cells HZ.out
  obtain ⟨y0, y1, y2, y3, y4⟩ := five_free HZ.out
  go_wp2_with fail
  obtain ⟨W, hW, p0, pk, ps', po, pt, pu⟩ := five_stores w2 w.heap.size HZ.out (.int .u8 t.cls) (.int .u32 t.tag) (.bool t.built) (.slice va t.val.length vc) (.slice pa t.parts.length pc)
  rw [← hW]
  clear hW z0 z1 z2 z3 z4
  have p1 := heap_alloc p0 (.cells #[.int .u8 t.cls, .int .u32 t.tag, .bool t.built, .slice va t.val.length vc, .slice pa t.parts.length pc] 36)
  obtain ⟨a0, a1, a2, a3, a4⟩ := five_cells p1
  refine bodyPost_ret (v := .agg #[.int .u8 t.cls, .int .u32 t.tag, .bool t.built, .slice va t.val.length vc, .slice pa t.parts.length pc]) (by simp [results, Tryd.results12, go_sem, a0, a1, a2, a3, a4]) rfl ?_
  rw [HTE.out]
  refine ⟨_, rfl, HB.out.trans (((show Below w.heap.size w2 W from ⟨po, pt, pu, by omega, fun k hk => pk k (by omega)⟩)).trans ((below_new _).mono (by omega))), ?_⟩
  have h1 := (HT.out.weaken (ok' := fun k => w.heap.size < k) fun k hk => by simp at hk; omega).keep (w' := W.alloc (.cells #[.int .u8 t.cls, .int .u32 t.tag, .bool t.built, .slice va t.val.length vc, .slice pa t.parts.length pc] 36)) fun k hk hl => by
    rw [Below.heap_alloc _ _ _ (by omega)]
    exact pk k (by omega)
  exact h1.weaken fun k hk => by omega
end Go.Proofs.YthonjbaeadbhdaaDoor
