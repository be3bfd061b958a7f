/- The law of Find and Same: the walk. -/
import Derived.Test.YthonjbaeadbhdaaDoorTagsFind
import Derived.Test.YthonjbaeadbhdaaDoorTagsAlike
import Derived.Test.YthonjbaeadbhdaaDoorTagsLives
import Derived.Test.YthonjbaeadbhdaaDoorTagsCodePure
import Derived.Deep.RegionHeld3
namespace Go.Proofs.YthonjbaeadbhdaaDoor
open Go.RowKit

/-- Five cells. -/
abbrev five (t : Tg.Tree) (va : Option Addr) (vc : Nat) (pa : Option Addr) (pc : Nat) : Obj := .cells #[.int .u8 t.cls, .int .u32 t.tag, .bool t.built, .slice va t.val.length vc, .slice pa t.parts.length pc] 36
abbrev aggT (t : Tg.Tree) (va : Option Addr) (vc : Nat) (pa : Option Addr) (pc : Nat) : Value := .agg #[.int .u8 t.cls, .int .u32 t.tag, .bool t.built, .slice va t.val.length vc, .slice pa t.parts.length pc]

/-- A part of a tree, in memory. -/
theorem tree_part {ok : Nat → Prop} {w : World} {c tg : Nat} {b : Bool} {v : List UInt8} {ps : List Tg.Tree} {x0 x1 x2 x3 : Value} {tp : Option Addr} {m tq : Nat} (h : TreeR ok w (.mk c tg b v ps) (.agg #[x0, x1, x2, x3, .slice tp m tq])) {j : Nat} {p : Tg.Tree} (hp : ps[j]? = some p) :
    ∃ g o va vc pa pc, tp = some ⟨g, o, none⟩ ∧ ok g ∧ TreeR ok w p (.agg #[.int .u8 p.cls, .int .u32 p.tag, .bool p.built, .slice va p.val.length vc, .slice pa p.parts.length pc]) ∧
      w.cell? ⟨g, o + j * 5, none⟩ = some (.int .u8 p.cls) ∧ w.cell? ⟨g, o + j * 5 + 1, none⟩ = some (.int .u32 p.tag) ∧ w.cell? ⟨g, o + j * 5 + 2, none⟩ = some (.bool p.built) ∧
      w.cell? ⟨g, o + j * 5 + 3, none⟩ = some (.slice va p.val.length vc) ∧ w.cell? ⟨g, o + j * 5 + 4, none⟩ = some (.slice pa p.parts.length pc) := by
  obtain ⟨_, _, _, _, va, vc, pa, pc, he, _, _, _, xs, hs, ht⟩ := h.open
  have he' : tp = pa := by
    injection he with he
    have := congrArg (fun a => a[4]?) he
    simp at this
    exact this.1
  subst he'
  exact part_cells hs ht hp
theorem tree_u8 {ok : Nat → Prop} {w : World} {t : Tg.Tree} {x : Value} (h : TreeR ok w t x) : t.cls < 256 ∧ t.tag < 4294967296 ∧ t.val.length ≤ lim ∧ t.parts.length ≤ lim := by
  obtain ⟨c, tg, b, v, ps⟩ := t
  obtain ⟨h1, h2, h3, h4, _⟩ := h.open
  exact ⟨h1, h2, h3, h4⟩
theorem find_first {α : Type} {f : α → Bool} : ∀ (l : List α) (j : Nat) (p : α), l[j]? = some p → f p = true → (∀ k q, k < j → l[k]? = some q → f q = false) → l.find? f = some p
  | [], j, p, h, _, _ => by simp at h
  | x :: l, 0, p, h, hp, _ => by
    simp at h
    subst h
    simp [hp]
  | x :: l, j + 1, p, h, hp, hno => by
    have hx := hno 0 x (by omega) (by simp)
    rw [List.find?_cons, hx]
    exact find_first l j p (by simpa using h) hp (fun k q hk hq => hno (k + 1) q (by omega) (by simpa using hq))
theorem find_never {α : Type} {f : α → Bool} (l : List α) (h : ∀ k q, k < l.length → l[k]? = some q → f q = false) : l.find? f = none := by
  rw [List.find?_eq_none]
  intro x hx
  obtain ⟨k, hk, he⟩ := List.getElem_of_mem hx
  rw [h k x hk (by rw [List.getElem?_eq_getElem hk, he])]
  simp
theorem below_drewH {B : Nat} {a w : World} (h : Hid (Below B a w)) : Hid (Below B a w.drew) := h.out.drew
theorem same_is {t u : Tg.Tree} {b : Bool} (hb : Tg.sameT t u = b) (x y : Value) (w : World) (ht : TreeR AnyB w t x) (hu : TreeR AnyB w u y) : Calls Tryd.prog 17 #[x, y] w (BoolPost w b) := hb ▸ same_top t u x y w ht hu
theorem alike_is {l m : List Tg.Nd} {b : Bool} (hb : (l == m) = b) (u v : Value) (w : World) (hl : l.length ≤ lim) (hm : m.length ≤ lim) (h : NodesR w u l) (k : NodesR w v m) : Calls Tryd.prog 22 #[u, v] w (BoolPost w b) := hb ▸ alike_any l m u v w hl hm h k
theorem flat_is (t : Tg.Tree) (x : Value) (w : World) (hc : Tg.cnt t ≤ 1024) (ht : TreeR AnyB w t x) : Calls Tryd.prog 16 #[x] w fun e w' => ∃ v, e = .returned v ∧ NodesR w' v (Tg.flat t) ∧ Below w.heap.size w w' := by
  refine (flat_any 1024 t x w hc (Nat.le_refl _) ht).mono ?_
  rintro e w' ⟨v, row, rfl, hr, hb, -⟩
  exact ⟨v, rfl, FlatPost.nodes (w := w) hr, hb⟩
/-- What stays of the law's own: the two trees in their variables. -/
structure FW (w : World) (tb ub : Nat) (t u : Tg.Tree) (ta : Option Addr) (tc : Nat) (tp : Option Addr) (tq : Nat) (ua : Option Addr) (uc : Nat) (up : Option Addr) (uq : Nat) (wr : World) : Prop where
  below : Below w.heap.size w wr
  ht : wr.heap[tb]? = some (five t ta tc tp tq)
  hu : wr.heap[ub]? = some (five u ua uc up uq)
  tr : TreeR AnyB wr t (aggT t ta tc tp tq)
  ur : TreeR AnyB wr u (aggT u ua uc up uq)
  env : Env wr
theorem FW.step {w wr ws : World} {tb ub : Nat} {t u : Tg.Tree} {ta : Option Addr} {tc : Nat} {tp : Option Addr} {tq : Nat} {ua : Option Addr} {uc : Nat} {up : Option Addr} {uq : Nat} (h : FW w tb ub t u ta tc tp tq ua uc up uq wr) (hb : Below wr.heap.size wr ws) : FW w tb ub t u ta tc tp tq ua uc up uq ws :=
  ⟨below_step h.below hb, (hb.block _ (lt_of_block h.ht)).trans h.ht, (hb.block _ (lt_of_block h.hu)).trans h.hu, h.tr.at_ hb, h.ur.at_ hb, h.env.below hb⟩
/-- The tree whose parts are looked through. -/
theorem opened_check {c tg : Nat} {b : Bool} {v : List UInt8} {ps : List Tg.Tree} (h1 : Tg.plain (.mk c tg b v ps) = true) (h2 : Tg.dep (.mk c tg b v ps) ≤ 10) (h3 : Tg.cnt (.mk c tg b v ps) ≤ 40) : Tg.check (.mk c tg true [] ps) = 0 := by
  obtain ⟨a1, a2, a3, a4, a5, a6⟩ := Tg.plain_fields h1
  simp only [Tg.dep, Tg.cnt] at h2 h3
  exact Tg.check_ok (by simp only [Tg.dep]; omega) (by simp only [Tg.cnt]; omega) (Tg.plain_built a1 a2 (fun hz ht => a3 ⟨hz, ht⟩) a6)
theorem part_check {t : Tg.Tree} (h1 : Tg.plain t = true) (h2 : Tg.dep t ≤ 10) (h3 : Tg.cnt t ≤ 40) : ∀ p ∈ t.parts, Tg.check p = 0 := by
  obtain ⟨c, tg, b, v, ps⟩ := t
  intro p hp
  simp only [Tg.Tree.parts] at hp
  obtain ⟨a1, a2, a3, a4, a5, a6⟩ := Tg.plain_fields h1
  simp only [Tg.dep, Tg.cnt] at h2 h3
  have e1 := Tg.depL_mem p hp
  have e2 := cnt_mem p hp
  exact Tg.check_ok (by omega) (by omega) (Tg.plainL_mem a6 p hp)
theorem sameT_self {t : Tg.Tree} (h : Tg.check t = 0) : Tg.sameT t t = true := by simp [Tg.sameT, h, Tg.same_refl]
theorem sameT_flat {t u : Tg.Tree} (h : Tg.check t = 0) (k : Tg.check u = 0) : Tg.sameT t u = (Tg.flat t == Tg.flat u) := by simp [Tg.sameT, h, k, Tg.same_flat]

set_option maxRecDepth 100000 in
set_option maxHeartbeats 2000000 in
theorem finds_law (ns ms : List Tg.N) (a b : Option Addr) (c d : Nat) (g0 g1 : Nat) (w : World) (hn : NsR w a ns) (hm : NsR w b ms) (hnl : ns.length ≤ lim) (hml : ms.length ≤ lim) (hg0 : g0 < 256) (hg1 : g1 < 256) (henv : Env w) :
    Calls Tryd.prog 6 #[.slice a ns.length c, .slice b ms.length d, .agg #[.int .u8 g0, .int .u8 g1]] w (BoolPost w true) := by
  have HN := Lib.hid hn
  have HM := Lib.hid hm
  have HE := Lib.hid henv
  have HNL := Lib.hid hnl
  have HML := Lib.hid hml
  unfold lim at hnl hml
  clear hn hm henv
  go_enter Tryd.func6, Tryd.ntmps6
  go_wp2_with fail
  refine (big_any ns a c _ (HN.out.below (below_new _)) HNL.out).mono ?_
  rintro e w1 ⟨hw, b1, rfl⟩
  have H1 := Lib.hid (show w1.heap[w.heap.size]? = some (.cells #[.int .u8 g0, .int .u8 g1] 58 (0, 0)) from hw ▸ alloc_new _ _)
  have HB1 := Lib.hid (show Below w.heap.size w w1 from hw ▸ below_new _)
  clear hw
  cases b1 with
  | true =>
    go_wp2_with fail
    refine (lives_any w1 (HE.out.below HB1.out)).mono ?_
    rintro e w2 ⟨rfl, hb2⟩
    go_wp2_with fail
    go_ret
    exact ⟨rfl, below_step HB1.out hb2⟩
  | false =>
  go_wp2_with fail
  refine (big_any ms b d _ (HM.out.below HB1.out) HML.out).mono ?_
  rintro e w2 ⟨hw, b2, rfl⟩
  subst hw
  cases b2 with
  | true =>
    go_wp2_with fail
    refine (lives_any w1 (HE.out.below HB1.out)).mono ?_
    rintro e w2 ⟨rfl, hb2⟩
    go_wp2_with fail
    go_ret
    exact ⟨rfl, below_step HB1.out hb2⟩
  | false =>
  go_wp2_with fail
  refine (of_any ns a c w1 HNL.out (HN.out.below HB1.out)).mono ?_
  rintro e w2 ⟨x2, rfl, hb2, ht2⟩
  obtain ⟨t, ht⟩ : ∃ t, t = Tg.ofT ns := ⟨_, rfl⟩
  have HOK := Lib.hid (ht ▸ Tg.ofT_ok ns)
  rw [← ht] at ht2
  obtain ⟨c1, tg1, bt, vt, ps⟩ := t
  obtain ⟨hc1, htg1, hvt, hpl, ta, tc, tp, tq, rfl, hvc, hpq, hsv, xs, hsp, htp⟩ := ht2.open
  have HO2 := Lib.hid (show TreeR AnyB w2 (.mk c1 tg1 true [] ps) (.agg #[.int .u8 c1, .int .u32 tg1, .bool true, .slice none 0 0, .slice tp ps.length tq]) by
    simp only [TreeR]
    exact ⟨hc1, htg1, by simp, hpl, _, _, _, _, rfl, by simp, hpq, .inl rfl, xs, hsp.weaken fun _ _ => trivial, TreesR.weaken (fun _ _ => trivial) _ _ htp⟩)
  have HPL := Lib.hid hpl
  unfold lim at hpl
  have HB2 := Lib.hid (below_step HB1.out hb2)
  have H2 := Lib.hid ((hb2.block _ (lt_of_block H1.out)).trans H1.out)
  clear ht ht2 hb2 hvt hvc hsv hsp htp
  go_wp2_with fail
  refine (of_any ms b d w2 HML.out (HM.out.below HB2.out)).mono ?_
  rintro e w3 ⟨x3, rfl, hb3, ht3⟩
  obtain ⟨u, hu⟩ : ∃ t, t = Tg.ofT ms := ⟨_, rfl⟩
  have HUK := Lib.hid (hu ▸ Tg.ofT_ok ms)
  rw [← hu] at ht3
  obtain ⟨ua, uc, up, uq, rfl⟩ := ht3.form
  have HU3 := Lib.hid ht3.any
  have HO3 := Lib.hid (HO2.out.at_ hb3)
  have HB3 := Lib.hid (below_step HB2.out hb3)
  have H3 := Lib.hid ((hb3.block _ (lt_of_block H2.out)).trans H2.out)
  have hs3 := lt_of_block H3.out
  have a0 := cell_of H3.out 0
  have a1 := cell_of H3.out 1
  simp at a0 a1
  clear hu ht3 hb3
  go_upto_region 6 with (fail)
  go_quiet (fail)
  obtain ⟨w5, hw5⟩ : ∃ w5, w5 = ((w3.alloc (.cells #[.int .u8 c1, .int .u32 tg1, .bool true, .slice none 0 0, .slice tp ps.length tq] 36)).alloc (.cells #[.int .u8 u.cls, .int .u32 u.tag, .bool u.built, .slice ua u.val.length uc, .slice up u.parts.length uq] 36)).drewN nq := ⟨_, rfl⟩
  have hb35 : Below w3.heap.size w3 w5 := by rw [hw5]; exact ((below_new _).trans ((below_new _).mono (by simp))).trans (below_drewN _ _)
  have HFW := Lib.hid (show FW w w3.heap.size (w3.heap.size + 1) (.mk c1 tg1 true [] ps) u none 0 tp tq ua uc up uq w5 from
    ⟨below_step HB3.out hb35, by rw [hw5]; exact heap_alloc (alloc_new _ _) _, by rw [hw5]; exact alloc_second _ _ _, HO3.out.at_ hb35, HU3.out.at_ hb35, HE.out.below (below_step HB3.out hb35)⟩)
  have H5 := Lib.hid ((hb35.block _ hs3).trans H3.out)
  rw [← hw5]
  clear hw5 hb35 a0 a1 HO3 HU3 H3 H2 HB3 HB2 HO2 H1 HB1
  obtain ⟨tb, htb⟩ : ∃ n, n = w3.heap.size := ⟨_, rfl⟩
  rw [← htb] at HFW hs3 ⊢
  clear htb
  have a0 := cell_of H5.out 0
  have a1 := cell_of H5.out 1
  simp at a0 a1
  have hs5 := lt_of_block H5.out
  obtain ⟨t0, t1, t2, t3, t4⟩ := five_cells HFW.out.ht
  have htb5 := lt_of_block HFW.out.ht
  simp only [Tg.Tree.cls, Tg.Tree.tag, Tg.Tree.built, Tg.Tree.val, Tg.Tree.parts, List.length_nil] at t0 t1 t2 t3 t4
  go_upto_region 7 with (fail)
  go_cut [43] (fun q w' => w' = w5 ∧ q = .bool (decide (0 < ps.length) && decide (128 ≤ g0)))
  case first =>
    by_cases hp : 0 < ps.length
    · go_wp2_with fail
      go_meet
      case rel => exact ⟨rfl, by simp [hp]; try omega⟩
    · go_wp2_with fail
      go_meet
      case rel => exact ⟨rfl, by simp [hp]⟩
  case rest =>
  obtain ⟨hw, rfl⟩ := hcut
  have hw' := hw.symm
  subst hw'
  go_upto_if 43 with (fail)
  go_cut [9, 10] (fun q r w' => ∃ cl tg : Nat, cl < 256 ∧ tg < 4294967296 ∧ q = .int .u8 cl ∧ r = .int .u32 tg ∧ Hid (Below w5.heap.size w5 w'))
  case first =>
    cases hbo : (decide (0 < ps.length) && decide (128 ≤ g0))
    · have e0 : (g0 : Int) % 4 = ((g0 % 4 : Nat) : Int) := by omega
      have e1 : (g1 : Int) % 8 = ((g1 % 8 : Nat) : Int) := by omega
      have HR := Lib.hid (show ∃ cl tg : Nat, cl < 256 ∧ tg < 4294967296 ∧ Value.int .u8 ((g0 : Int) % 4) = .int .u8 cl ∧ Value.int .u32 ((g1 : Int) % 8) = .int .u32 tg ∧ Hid (Below w5.heap.size w5 w5) from
        ⟨g0 % 4, g1 % 8, by omega, by omega, by rw [e0], by rw [e1], Below.refl _ _⟩)
      clear e0 e1
      go_wp2_with fail
      go_meet
      case rel => exact HR.out
    · have hp : 0 < ps.length := by
        simp at hbo
        omega
      obtain ⟨kk, hkk⟩ : ∃ k, k = g1 % ps.length := ⟨_, rfl⟩
      have hki : (g1 : Int) % ps.length = (kk : Int) := by rw [hkk]; exact (Int.natCast_emod _ _).symm
      have hkl : kk < ps.length := by rw [hkk]; exact Nat.mod_lt _ hp
      obtain ⟨p, hpk⟩ : ∃ p, ps[kk]? = some p := ⟨_, List.getElem?_eq_getElem hkl⟩
      obtain ⟨g, o, va', vc', pa', pc', rfl, -, htp, e0, e1, e2, e3, e4⟩ := tree_part HFW.out.tr hpk
      have HTP := Lib.hid (tree_u8 htp)
      have hgl : g < w5.heap.size := lt_of_cell e0
      clear hbo hkk hpk htp
      go_wp2_with fail
      go_region
      clear e0 e1 e2 e3 e4
      go_wp2_with fail
      go_quiet (fail)
      go_wp2_with fail
      go_meet
      case rel => exact ⟨p.cls, p.tag, HTP.out.1, HTP.out.2.1, rfl, rfl, ((below_new _).trans (show Below w5.heap.size (w5.alloc (five p va' vc' pa' pc')) (w5.alloc (five p va' vc' pa' pc')).drew from ⟨rfl, rfl, rfl, Nat.le_refl _, fun _ _ => rfl⟩)).trans (below_drewN _ _)⟩
  case rest =>
    obtain ⟨cl, tg, hcl, htg, rfl, rfl, hbc⟩ := hcut
    have HFC := Lib.hid (HFW.out.step hbc.out)
    clear hbc t0 t1 t2 t3 t4 a0 a1 hs5 htb5 H5
    obtain ⟨t0, t1, t2, t3, t4⟩ := five_cells HFC.out.ht
    have htb5 := lt_of_block HFC.out.ht
    simp only [Tg.Tree.cls, Tg.Tree.tag, Tg.Tree.built, Tg.Tree.val, Tg.Tree.parts, List.length_nil] at t0 t1 t2 t3 t4
    go_wp2_with fail
    refine (find_any (.mk c1 tg1 true [] ps) _ cl tg _ HFC.out.tr hcl htg).mono ?_
    rintro e w6 ⟨x6, rfl, hb6, ht6⟩
    obtain ⟨r, hr⟩ : ∃ r, r = Tg.findP (Tg.Tree.parts (.mk c1 tg1 true [] ps)) cl tg := ⟨_, rfl⟩
    rw [← hr] at ht6 ⊢
    have HRE := Lib.hid (show r = (match ps.find? (Tg.isTag cl tg) with | some p => (p, true) | none => (.mk 0 0 false [] [], false)) from hr)
    obtain ⟨G, ok⟩ := r
    simp only at ht6
    obtain ⟨ga, gc, gp, gq, rfl⟩ := ht6.form
    have HF6 := Lib.hid (HFC.out.step hb6)
    have HG6 := Lib.hid ht6
    clear hb6 ht6 hr t0 t1 t2 t3 t4 HFC HFW
    have htb6 := lt_of_block HF6.out.ht
    go_wp2_with fail
    obtain ⟨gb, hgb⟩ : ∃ n, n = w6.heap.size := ⟨_, rfl⟩
    obtain ⟨w7, hw7⟩ : ∃ w7, w7 = w6.alloc (five G ga gc gp gq) := ⟨_, rfl⟩
    have HF7 := Lib.hid (show FW w tb (tb + 1) (.mk c1 tg1 true [] ps) u none 0 tp tq ua uc up uq w7 by rw [hw7]; exact HF6.out.step (below_new _))
    have HG7 := Lib.hid (show TreeR AnyB w7 G (aggT G ga gc gp gq) by rw [hw7]; exact HG6.out.at_ (below_new _))
    have HC7 := Lib.hid (show w7.heap[gb]? = some (five G ga gc gp gq) by rw [hw7, hgb]; exact alloc_new _ _)
    rw [← hw7, ← hgb]
    clear hw7 hgb HF6 HG6 htb5 htb6
    obtain ⟨t0, t1, t2, t3, t4⟩ := five_cells HF7.out.ht
    obtain ⟨u0, u1, u2, u3, u4⟩ := five_cells HF7.out.hu
    obtain ⟨g0', g1', g2', g3', g4'⟩ := five_cells HC7.out
    simp only [Tg.Tree.cls, Tg.Tree.tag, Tg.Tree.built, Tg.Tree.val, Tg.Tree.parts, List.length_nil] at t0 t1 t2 t3 t4
    have htb7 := lt_of_block HF7.out.ht
    go_loopw [14] (fun i wr => ∃ j : Nat, j ≤ ps.length ∧ i = .int .i64 j ∧ wr = w7 ∧ Hid (∀ k p, k < j → ps[k]? = some p → Tg.isTag cl tg p = false)) (fun i _ => ps.length - (intOf i).toNat)
    case atStart => exact ⟨0, by omega, rfl, rfl, fun k p hk => by omega⟩
    case round =>
      obtain ⟨j, hj, rfl, hw, hno⟩ := hrel
      have hw' := hw.symm
      subst hw'
      have HNO := Lib.hid hno.out
      clear hno
      by_cases hlt : j < ps.length
      · obtain ⟨p, hpj⟩ : ∃ p, ps[j]? = some p := ⟨_, List.getElem?_eq_getElem hlt⟩
        obtain ⟨g, o, va', vc', pa', pc', rfl, -, htp, e0, e1, e2, e3, e4⟩ := tree_part HF7.out.tr hpj
        have HTP := Lib.hid htp
        have HPJ := Lib.hid hpj
        clear hpj htp
        cases htag : Tg.isTag cl tg p
        · have HNO2 := Lib.hid (show ∀ k p, k < j + 1 → ps[k]? = some p → Tg.isTag cl tg p = false from fun k q hk hq => by
            by_cases hkj : k = j
            · subst hkj
              rw [HPJ.out] at hq
              injection hq with hq
              subst hq
              exact htag
            · exact HNO.out k q (by omega) hq)
          by_cases hq1 : p.cls = cl
          · have hq2 : ¬ p.tag = tg := fun h => by simp [Tg.isTag, hq1, h] at htag
            have e5 : ((p.cls : Int) == cl) = true := by simp [hq1]
            have e6 : ((p.tag : Int) == tg) = false := by simp; omega
            clear htag hq1 hq2
            go_wp2_with fail
            go_roundw
            case rel => exact ⟨j + 1, by omega, by go_num, trivial, HNO2.out⟩
            case measure => simp [intOf]; omega
          · have e5 : ((p.cls : Int) == cl) = false := by simp; omega
            clear htag hq1
            go_wp2_with fail
            go_roundw
            case rel => exact ⟨j + 1, by omega, by go_num, trivial, HNO2.out⟩
            case measure => simp [intOf]; omega
        · have hfi := find_first ps j p HPJ.out htag HNO.out
          have hre := HRE.out
          rw [hfi] at hre
          injection hre with hre1 hre2
          subst hre1 hre2
          have e5 : ((G.cls : Int) == cl) = true := by
            simp [Tg.isTag] at htag
            simp [htag.1]
          have e6 : ((G.tag : Int) == tg) = true := by
            simp [Tg.isTag] at htag
            simp [htag.2]
          have HPC := Lib.hid (part_check HOK.out.2.2.2.2 HOK.out.2.2.1 HOK.out.2.1 G (List.mem_of_getElem? HPJ.out))
          have HOC := Lib.hid (opened_check HOK.out.2.2.2.2 HOK.out.2.2.1 HOK.out.2.1)
          have HCN := Lib.hid (show Tg.cnt (.mk c1 tg1 true [] ps) ≤ 40 ∧ Tg.cnt u ≤ 40 from ⟨by simpa [Tg.cnt] using HOK.out.2.1, HUK.out.2.1⟩)
          clear htag hfi
          have hcell := fun {x : Addr} {y : Value} (w' : World) (hb : Hid (Below w7.heap.size w7 w')) (h : w7.cell? x = some y) => cell_below hb.out h
          have KS := Lib.hid (show ∀ w', Hid (Below w7.heap.size w7 w') →
              w'.cell? ⟨tb, 0, none⟩ = some (.int .u8 c1) ∧ w'.cell? ⟨tb, 1, none⟩ = some (.int .u32 tg1) ∧ w'.cell? ⟨tb, 2, none⟩ = some (.bool true) ∧ w'.cell? ⟨tb, 3, none⟩ = some (.slice none 0 0) ∧ w'.cell? ⟨tb, 4, none⟩ = some (.slice (some ⟨g, o, none⟩) ps.length tq) ∧
              w'.cell? ⟨tb + 1, 0, none⟩ = some (.int .u8 u.cls) ∧ w'.cell? ⟨tb + 1, 1, none⟩ = some (.int .u32 u.tag) ∧ w'.cell? ⟨tb + 1, 2, none⟩ = some (.bool u.built) ∧ w'.cell? ⟨tb + 1, 3, none⟩ = some (.slice ua u.val.length uc) ∧ w'.cell? ⟨tb + 1, 4, none⟩ = some (.slice up u.parts.length uq) ∧
              w'.cell? ⟨gb, 0, none⟩ = some (.int .u8 G.cls) ∧ w'.cell? ⟨gb, 1, none⟩ = some (.int .u32 G.tag) ∧ w'.cell? ⟨gb, 2, none⟩ = some (.bool G.built) ∧ w'.cell? ⟨gb, 3, none⟩ = some (.slice ga G.val.length gc) ∧ w'.cell? ⟨gb, 4, none⟩ = some (.slice gp G.parts.length gq) ∧
              w'.cell? ⟨g, o + j * 5, none⟩ = some (.int .u8 G.cls) ∧ w'.cell? ⟨g, o + j * 5 + 1, none⟩ = some (.int .u32 G.tag) ∧ w'.cell? ⟨g, o + j * 5 + 2, none⟩ = some (.bool G.built) ∧ w'.cell? ⟨g, o + j * 5 + 3, none⟩ = some (.slice va' G.val.length vc') ∧ w'.cell? ⟨g, o + j * 5 + 4, none⟩ = some (.slice pa' G.parts.length pc') ∧
              Hid (Below w7.heap.size w7 w') from fun w' hb => ⟨hcell w' hb t0, hcell w' hb t1, hcell w' hb t2, hcell w' hb t3, hcell w' hb t4, hcell w' hb u0, hcell w' hb u1, hcell w' hb u2, hcell w' hb u3, hcell w' hb u4,
                hcell w' hb g0', hcell w' hb g1', hcell w' hb g2', hcell w' hb g3', hcell w' hb g4', hcell w' hb e0, hcell w' hb e1, hcell w' hb e2, hcell w' hb e3, hcell w' hb e4, hb⟩)
          have KR := Lib.hid (show ∀ w', Hid (Below w7.heap.size w7 w') → TreeR AnyB w' (.mk c1 tg1 true [] ps) (.agg #[.int .u8 c1, .int .u32 tg1, .bool true, .slice none 0 0, .slice (some ⟨g, o, none⟩) ps.length tq]) ∧ TreeR AnyB w' u (aggT u ua uc up uq) ∧ TreeR AnyB w' G (aggT G ga gc gp gq) ∧ TreeR AnyB w' G (aggT G va' vc' pa' pc') ∧ Env w' from
            fun w' hb => ⟨HF7.out.tr.at_ hb.out, HF7.out.ur.at_ hb.out, HG7.out.at_ hb.out, HTP.out.any.at_ hb.out, HF7.out.env.below hb.out⟩)
          have h7 : Hid (Below w7.heap.size w7 w7) := Below.refl _ _
          have h7d : Hid (Below w7.heap.size w7 w7.drew) := ⟨rfl, rfl, rfl, Nat.le_refl _, fun _ _ => rfl⟩
          obtain ⟨B, hB⟩ : ∃ B, Tg.sameT (.mk c1 tg1 true [] ps) u = B := ⟨_, rfl⟩
          have HB := Lib.hid hB
          have HBF := Lib.hid ((sameT_flat HOC.out HUK.out.1).symm.trans hB)
          have HSG := Lib.hid (sameT_self HPC.out)
          have HSU := Lib.hid (sameT_self HUK.out.1)
          have hBB : (B == B) = true := by simp
          clear hB hcell
          go_wp2_with fail
          go_region_held3 (fun w' => w'.cell? ⟨tb, 0, none⟩ = some (.int .u8 c1) ∧ w'.cell? ⟨tb, 1, none⟩ = some (.int .u32 tg1) ∧ w'.cell? ⟨tb, 2, none⟩ = some (.bool true) ∧ w'.cell? ⟨tb, 3, none⟩ = some (.slice none 0 0) ∧ w'.cell? ⟨tb, 4, none⟩ = some (.slice (some ⟨g, o, none⟩) ps.length tq) ∧
              w'.cell? ⟨tb + 1, 0, none⟩ = some (.int .u8 u.cls) ∧ w'.cell? ⟨tb + 1, 1, none⟩ = some (.int .u32 u.tag) ∧ w'.cell? ⟨tb + 1, 2, none⟩ = some (.bool u.built) ∧ w'.cell? ⟨tb + 1, 3, none⟩ = some (.slice ua u.val.length uc) ∧ w'.cell? ⟨tb + 1, 4, none⟩ = some (.slice up u.parts.length uq) ∧
              w'.cell? ⟨gb, 0, none⟩ = some (.int .u8 G.cls) ∧ w'.cell? ⟨gb, 1, none⟩ = some (.int .u32 G.tag) ∧ w'.cell? ⟨gb, 2, none⟩ = some (.bool G.built) ∧ w'.cell? ⟨gb, 3, none⟩ = some (.slice ga G.val.length gc) ∧ w'.cell? ⟨gb, 4, none⟩ = some (.slice gp G.parts.length gq) ∧
              w'.cell? ⟨g, o + j * 5, none⟩ = some (.int .u8 G.cls) ∧ w'.cell? ⟨g, o + j * 5 + 1, none⟩ = some (.int .u32 G.tag) ∧ w'.cell? ⟨g, o + j * 5 + 2, none⟩ = some (.bool G.built) ∧ w'.cell? ⟨g, o + j * 5 + 3, none⟩ = some (.slice va' G.val.length vc') ∧ w'.cell? ⟨g, o + j * 5 + 4, none⟩ = some (.slice pa' G.parts.length pc') ∧
              Hid (Below w7.heap.size w7 w')) (first | exact KS.out _ (by assumption) | exact KS.out _ (below_drewH (by assumption)))
            (first
              | (go_at_call 17
                 first
                   | with_reducible refine (same_is HSG.out _ _ _ (KR.out _ (by assumption)).2.2.1 (KR.out _ (by assumption)).2.2.2.1).mono ?_
                   | with_reducible refine (same_is HB.out _ _ _ (KR.out _ (by assumption)).1 (KR.out _ (by assumption)).2.1).mono ?_
                   | with_reducible refine (same_is HSU.out _ _ _ (KR.out _ (by assumption)).2.1 (KR.out _ (by assumption)).2.1).mono ?_
                 rintro e w' ⟨rfl, hb⟩
                 have hbw : Hid (Below w7.heap.size w7 w') := below_step (by assumption) hb)
              | (go_at_call 16
                 first
                   | with_reducible refine (flat_is _ _ _ (by have := HCN.out.1; omega) (KR.out _ (by assumption)).1).mono ?_
                   | with_reducible refine (flat_is _ _ _ (by have := HCN.out.2; omega) (KR.out _ (by assumption)).2.1).mono ?_
                 rintro e w' ⟨v, rfl, hnv, hb⟩
                 have hbw : Hid (Below w7.heap.size w7 w') := below_step (by assumption) hb)
              | (go_at_call 22
                 with_reducible refine (alike_is HBF.out _ _ _ (by rw [Tg.flat_len]; have := HCN.out.1; unfold lim; omega) (by rw [Tg.flat_len]; have := HCN.out.2; unfold lim; omega) (NodesR.below (by assumption) (by assumption)) (by assumption)).mono ?_
                 rintro e w' ⟨rfl, hb⟩
                 have hbw : Hid (Below w7.heap.size w7 w') := below_step (by assumption) hb)
              | (go_at_call 7
                 with_reducible refine (lives_any _ (KR.out _ (by assumption)).2.2.2.2).mono ?_
                 rintro e w' ⟨rfl, hb⟩
                 have hbw : Hid (Below w7.heap.size w7 w') := below_step (by assumption) hb))
          have hfin : Below w7.heap.size w7 w' := by assumption
          have HFIN := Lib.hid (below_step HF7.out.below hfin)
          go_wp2_with fail
          go_ret
          exact ⟨rfl, HFIN.out⟩
      · have hfi := find_never (f := Tg.isTag cl tg) ps (fun k q hk hq => HNO.out k q (by omega) hq)
        have hre := HRE.out
        rw [hfi] at hre
        injection hre with hre1 hre2
        subst hre1 hre2
        have HOC := Lib.hid (opened_check HOK.out.2.2.2.2 HOK.out.2.2.1 HOK.out.2.1)
        have HCN := Lib.hid (show Tg.cnt (.mk c1 tg1 true [] ps) ≤ 40 ∧ Tg.cnt u ≤ 40 from ⟨by simpa [Tg.cnt] using HOK.out.2.1, HUK.out.2.1⟩)
        simp only [Tg.Tree.cls, Tg.Tree.tag, Tg.Tree.built, Tg.Tree.val, Tg.Tree.parts, List.length_nil] at g0' g1' g2' g3' g4'
        have hcell := fun {x : Addr} {y : Value} (w' : World) (hb : Hid (Below w7.heap.size w7 w')) (h : w7.cell? x = some y) => cell_below hb.out h
        have KS := Lib.hid (show ∀ w', Hid (Below w7.heap.size w7 w') →
            w'.cell? ⟨tb, 0, none⟩ = some (.int .u8 c1) ∧ w'.cell? ⟨tb, 1, none⟩ = some (.int .u32 tg1) ∧ w'.cell? ⟨tb, 2, none⟩ = some (.bool true) ∧ w'.cell? ⟨tb, 3, none⟩ = some (.slice none 0 0) ∧ w'.cell? ⟨tb, 4, none⟩ = some (.slice tp ps.length tq) ∧
            w'.cell? ⟨tb + 1, 0, none⟩ = some (.int .u8 u.cls) ∧ w'.cell? ⟨tb + 1, 1, none⟩ = some (.int .u32 u.tag) ∧ w'.cell? ⟨tb + 1, 2, none⟩ = some (.bool u.built) ∧ w'.cell? ⟨tb + 1, 3, none⟩ = some (.slice ua u.val.length uc) ∧ w'.cell? ⟨tb + 1, 4, none⟩ = some (.slice up u.parts.length uq) ∧
            w'.cell? ⟨gb, 1, none⟩ = some (.int .u32 (0 : Nat)) ∧ Hid (Below w7.heap.size w7 w') from fun w' hb => ⟨hcell w' hb t0, hcell w' hb t1, hcell w' hb t2, hcell w' hb t3, hcell w' hb t4, hcell w' hb u0, hcell w' hb u1, hcell w' hb u2, hcell w' hb u3, hcell w' hb u4, hcell w' hb g1', hb⟩)
        have KR := Lib.hid (show ∀ w', Hid (Below w7.heap.size w7 w') → TreeR AnyB w' (.mk c1 tg1 true [] ps) (.agg #[.int .u8 c1, .int .u32 tg1, .bool true, .slice none 0 0, .slice tp ps.length tq]) ∧ TreeR AnyB w' u (aggT u ua uc up uq) ∧ Env w' from
          fun w' hb => ⟨HF7.out.tr.at_ hb.out, HF7.out.ur.at_ hb.out, HF7.out.env.below hb.out⟩)
        have h7 : Hid (Below w7.heap.size w7 w7) := Below.refl _ _
        have h7d : Hid (Below w7.heap.size w7 w7.drew) := ⟨rfl, rfl, rfl, Nat.le_refl _, fun _ _ => rfl⟩
        obtain ⟨B, hB⟩ : ∃ B, Tg.sameT (.mk c1 tg1 true [] ps) u = B := ⟨_, rfl⟩
        have HB := Lib.hid hB
        have HBF := Lib.hid ((sameT_flat HOC.out HUK.out.1).symm.trans hB)
        have HST := Lib.hid (sameT_self HOC.out)
        have hBB : (B == B) = true := by simp
        clear hB hcell hfi
        go_wp2_with fail
        go_region_held3 (fun w' => w'.cell? ⟨tb, 0, none⟩ = some (.int .u8 c1) ∧ w'.cell? ⟨tb, 1, none⟩ = some (.int .u32 tg1) ∧ w'.cell? ⟨tb, 2, none⟩ = some (.bool true) ∧ w'.cell? ⟨tb, 3, none⟩ = some (.slice none 0 0) ∧ w'.cell? ⟨tb, 4, none⟩ = some (.slice tp ps.length tq) ∧
            w'.cell? ⟨tb + 1, 0, none⟩ = some (.int .u8 u.cls) ∧ w'.cell? ⟨tb + 1, 1, none⟩ = some (.int .u32 u.tag) ∧ w'.cell? ⟨tb + 1, 2, none⟩ = some (.bool u.built) ∧ w'.cell? ⟨tb + 1, 3, none⟩ = some (.slice ua u.val.length uc) ∧ w'.cell? ⟨tb + 1, 4, none⟩ = some (.slice up u.parts.length uq) ∧
            w'.cell? ⟨gb, 1, none⟩ = some (.int .u32 (0 : Nat)) ∧ Hid (Below w7.heap.size w7 w')) (first | exact KS.out _ (by assumption) | exact KS.out _ (below_drewH (by assumption)))
          (first
            | (go_at_call 17
               first
                 | with_reducible refine (same_is HB.out _ _ _ (KR.out _ (by assumption)).1 (KR.out _ (by assumption)).2.1).mono ?_
                 | with_reducible refine (same_is HST.out _ _ _ (KR.out _ (by assumption)).1 (KR.out _ (by assumption)).1).mono ?_
               rintro e w' ⟨rfl, hb⟩
               have hbw : Hid (Below w7.heap.size w7 w') := below_step (by assumption) hb)
            | (go_at_call 16
               first
                 | with_reducible refine (flat_is _ _ _ (by have := HCN.out.1; omega) (KR.out _ (by assumption)).1).mono ?_
                 | with_reducible refine (flat_is _ _ _ (by have := HCN.out.2; omega) (KR.out _ (by assumption)).2.1).mono ?_
               rintro e w' ⟨v, rfl, hnv, hb⟩
               have hbw : Hid (Below w7.heap.size w7 w') := below_step (by assumption) hb)
            | (go_at_call 22
               with_reducible refine (alike_is HBF.out _ _ _ (by rw [Tg.flat_len]; have := HCN.out.1; unfold lim; omega) (by rw [Tg.flat_len]; have := HCN.out.2; unfold lim; omega) (NodesR.below (by assumption) (by assumption)) (by assumption)).mono ?_
               rintro e w' ⟨rfl, hb⟩
               have hbw : Hid (Below w7.heap.size w7 w') := below_step (by assumption) hb)
            | (go_at_call 7
               with_reducible refine (lives_any _ (KR.out _ (by assumption)).2.2).mono ?_
               rintro e w' ⟨rfl, hb⟩
               have hbw : Hid (Below w7.heap.size w7 w') := below_step (by assumption) hb))
        have hfin : Below w7.heap.size w7 w' := by assumption
        have HFIN := Lib.hid (below_step HF7.out.below hfin)
        go_wp2_with fail
        go_ret
        exact ⟨rfl, HFIN.out⟩
end Go.Proofs.YthonjbaeadbhdaaDoor
