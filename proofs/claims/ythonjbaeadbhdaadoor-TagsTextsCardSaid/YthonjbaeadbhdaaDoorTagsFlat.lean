/- Contracts of flat and alike. -/
import Derived.Test.YthonjbaeadbhdaaDoorTagsGrown
namespace Go.Proofs.YthonjbaeadbhdaaDoor
open Go.RowKit

theorem node_info : (Tryd.prog.info? 87).map (fun i => (i.zero, i.size, i.bytes)) = some (some (.agg #[.int .i64 0, .int .i64 0, .bool false, .string ⟨#[]⟩, .int .i64 0]), 5, 48) := by kernel_rfl
/-- The cells of a list of nodes. -/
def ndCells : List Tg.Nd → List Value
  | [] => []
  | n :: r => .int .i64 n.cls :: .int .i64 n.tag :: .bool n.built :: .string ⟨n.val.toArray⟩ :: .int .i64 n.parts :: ndCells r
theorem ndCells_append : ∀ a b : List Tg.Nd, ndCells (a ++ b) = ndCells a ++ ndCells b
  | [], b => rfl
  | n :: a, b => by simp [ndCells, ndCells_append a b]
theorem ndCells_len : ∀ a : List Tg.Nd, (ndCells a).length = a.length * 5
  | [] => rfl
  | n :: a => by simp [ndCells, ndCells_len a, Nat.add_mul]
theorem ndCells_one : ∀ a : List Tg.Nd, ∀ u ∈ ndCells a, u.oneCell' = true
  | [], u, h => by simp [ndCells] at h
  | n :: a, u, h => by
    simp only [ndCells, List.mem_cons] at h
    rcases h with rfl | rfl | rfl | rfl | rfl | h
    · rfl
    · rfl
    · rfl
    · rfl
    · rfl
    · exact ndCells_one a u h
theorem ndCells_at : ∀ (l : List Tg.Nd) (j : Nat) (n : Tg.Nd), l[j]? = some n → (ndCells l)[j * 5]? = some (.int .i64 n.cls) ∧ (ndCells l)[j * 5 + 1]? = some (.int .i64 n.tag) ∧ (ndCells l)[j * 5 + 2]? = some (.bool n.built) ∧ (ndCells l)[j * 5 + 3]? = some (.string ⟨n.val.toArray⟩) ∧ (ndCells l)[j * 5 + 4]? = some (.int .i64 n.parts)
  | [], j, n, h => by simp at h
  | m :: l, 0, n, h => by
    simp at h
    subst h
    exact ⟨rfl, rfl, rfl, rfl, rfl⟩
  | m :: l, j + 1, n, h => by
    have ih := ndCells_at l j n (by simpa using h)
    simpa [ndCells, Nat.add_mul, Nat.add_assoc] using ih
/-- A list of nodes that is read. -/
def NodesR (w : World) (v : Value) (l : List Tg.Nd) : Prop := ∃ a c, v = .slice a l.length c ∧ l.length ≤ c ∧ SliceAt AnyB w a (ndCells l)
theorem NodesR.below {w w' : World} {v : Value} {l : List Tg.Nd} (h : NodesR w v l) (hb : Below w.heap.size w w') : NodesR w' v l := by
  obtain ⟨a, c, h1, h2, h3⟩ := h
  exact ⟨a, c, h1, h2, h3.keep (Keeps.any hb)⟩
/-- What 'flat' hands back. -/
def FlatPost (w : World) (l : List Tg.Nd) (e : Ending) (w' : World) : Prop :=
  ∃ v row, e = .returned v ∧ Row 87 5 w' row v l.length (ndCells l) ∧ Below w.heap.size w w' ∧ RowStep w none row
theorem FlatPost.nodes {w w' : World} {v : Value} {row : Option Nat} {l : List Tg.Nd} (h : Row 87 5 w' row v l.length (ndCells l)) : NodesR w' v l := by
  obtain ⟨a, c, h1, h2, h3⟩ := h.reads
  exact ⟨a, c, h1, h2, h3.weaken fun _ _ => trivial⟩

theorem flatL_take {ps : List Tg.Tree} {j : Nat} (h : j < ps.length) : Tg.flatL (ps.take (j + 1)) = Tg.flatL (ps.take j) ++ Tg.flat ps[j] := by
  have ap : ∀ a b, Tg.flatL (a ++ b) = Tg.flatL a ++ Tg.flatL b := by
    intro a b
    induction a with
    | nil => simp [Tg.flatL]
    | cons p a ih => simp [Tg.flatL, ih]
  rw [List.take_succ_eq_append_getElem h, ap]
  simp [Tg.flatL]
theorem cntL_take (ps : List Tg.Tree) (j : Nat) : Tg.cntL (ps.take j) ≤ Tg.cntL ps := by
  have h := Tg.cntL_append (ps.take j) (ps.drop j)
  rw [List.take_append_drop] at h
  omega
theorem flatL_len : ∀ ps : List Tg.Tree, (Tg.flatL ps).length = Tg.cntL ps
  | [] => rfl
  | p :: ps => by simp [Tg.flatL, Tg.cntL, Tg.flat_len, flatL_len ps]
theorem cnt_mem {ps : List Tg.Tree} : ∀ p ∈ ps, Tg.cnt p ≤ Tg.cntL ps := by
  induction ps with
  | nil => intro p h; simp at h
  | cons q ps ih =>
    intro p h
    simp only [Tg.cntL]
    rcases List.mem_cons.1 h with rfl | h
    · omega
    · have := ih p h
      omega

set_option maxRecDepth 100000 in
set_option maxHeartbeats 1000000 in
theorem flat_any (k : Nat) : ∀ (t : Tg.Tree) (x : Value) (w : World), Tg.cnt t ≤ k → k ≤ 1024 → TreeR AnyB w t x → Calls Tryd.prog 16 #[x] w (FlatPost w (Tg.flat t)) := by
  induction k with
  | zero => intro t x w h _; have := Tg.cnt_pos t; omega
  | succ k ih =>
    intro t x w hk hk2 ht
    obtain ⟨c, tg, b, v, ps⟩ := t
    obtain ⟨h1, h2, h3, h4, va, vc, pa, pc, rfl, h5, h6, h7, xs, h8, h9⟩ := ht.open
    have IH := Lib.hid ih
    have HT := Lib.hid ht
    have HS := Lib.hid h8
    have HTS := Lib.hid h9
    have HCN := Lib.hid hk
    have hv : BytesR AnyB w (.slice va v.length vc) v := ⟨va, vc, rfl, h5, h3, h7⟩
    have HCS := Lib.hid (fun w' (hb : Below w.heap.size w w') => run_str (hv.keep (Keeps.any hb)))
    have hcs1 := HCS.out _ (below_new (.cells #[.int .u8 c, .int .u32 tg, .bool b, .slice va v.length vc, .slice pa ps.length pc] 36))
    unfold lim at h3 h4
    simp only [Tg.cnt] at hk
    have hpl : ps.length ≤ 1024 := by
      have : ∀ qs : List Tg.Tree, qs.length ≤ Tg.cntL qs := by
        intro qs
        induction qs with
        | nil => simp
        | cons q qs ihq =>
          have := Tg.cnt_pos q
          simp [Tg.cntL]
          omega
      have := this ps
      omega
    clear ih ht h7 h8 h9 hv
    go_enter Tryd.func16, Tryd.ntmps16
    go_wp2_with fail
    clear hcs1
    go_loopw [3, 4] (fun q i wr => ∃ (j : Nat) (row : Option Nat), j ≤ ps.length ∧ i = .int .i64 j ∧ Hid (Row 87 5 wr row q (⟨c, tg, b, v, ps.length⟩ :: Tg.flatL (ps.take j)).length (ndCells (⟨c, tg, b, v, ps.length⟩ :: Tg.flatL (ps.take j)))) ∧ Hid (∀ g, row = some g → w.heap.size < g) ∧
      Hid (Below w.heap.size w wr) ∧ Hid (wr.heap[w.heap.size]? = some (.cells #[.int .u8 c, .int .u32 tg, .bool b, .slice va v.length vc, .slice pa ps.length pc] 36 (0, 0)))) (fun _ i _ => ps.length - (intOf i).toNat)
    case atStart =>
      refine ⟨0, some (w.heap.size + 1), by omega, rfl, ⟨rfl, 1, _, rfl, alloc_second _ _ _, by simp [Tg.flatL], by unfold maxLen; omega, rfl, rfl⟩, fun g hg => ?_, (below_new _).trans ((below_new _).mono (by simp)), heap_alloc (alloc_new w _) _⟩
      injection hg with hg
      omega
    case round =>
      obtain ⟨j, row, hj, rfl, hrow, hrg, hb, hbox⟩ := hrel
      obtain ⟨L, hL⟩ : ∃ L : List Tg.Nd, L = ⟨c, tg, b, v, ps.length⟩ :: Tg.flatL (ps.take j) := ⟨_, rfl⟩
      rw [← hL] at hrow
      have hll : L.length ≤ 1024 := by
        rw [hL, List.length_cons, flatL_len]
        have := cntL_take ps j
        have := HCN.out
        simp only [Tg.cnt] at this
        omega
      have HL := Lib.hid hL
      clear hL
      obtain ⟨a3, c3, hq, hc3, hL3⟩ := hrow.out.shape
      have HROW := Lib.hid hrow.out
      have HRG := Lib.hid hrg.out
      have HB := Lib.hid hb.out
      have HBX := Lib.hid hbox.out
      subst hq
      obtain ⟨b0, b1, b2, b3, b4⟩ := five_cells HBX.out
      have hwl : w.heap.size < wr.heap.size := lt_of_block HBX.out
      clear hrow hrg hb hbox
      by_cases hlt : j < ps.length
      · obtain ⟨p, hp⟩ : ∃ p, ps[j]? = some p := ⟨_, List.getElem?_eq_getElem hlt⟩
        have hps := HS.out.keep (Keeps.any HB.out)
        obtain ⟨g, o, va', vc', pa', pc', rfl, hg, htp, e0, e1, e2, e3, e4⟩ := part_cells hps (TreesR.keep (Keeps.any HB.out) _ _ HTS.out) hp
        have hpm : p ∈ ps := List.mem_of_getElem? hp
        have hpe : ps[j] = p := by
          rw [List.getElem?_eq_getElem hlt] at hp
          exact Option.some.inj hp
        have HLN := Lib.hid (show (⟨c, tg, b, v, ps.length⟩ : Tg.Nd) :: Tg.flatL (ps.take (j + 1)) = L ++ Tg.flat p by
          rw [flatL_take hlt, hpe, HL.out]
          rfl)
        have hln : L.length + (Tg.flat p).length ≤ 1024 := by
          rw [← List.length_append, ← HLN.out, List.length_cons, flatL_len]
          have := cntL_take ps (j + 1)
          have := HCN.out
          simp only [Tg.cnt] at this
          omega
        have hpk : Tg.cnt p ≤ k := by
          have := cnt_mem p hpm
          have := HCN.out
          simp only [Tg.cnt] at this
          omega
        have HTP := Lib.hid htp
        clear hps htp hp hpm hpe hg
        go_wp2_with fail
        refine (IH.out p _ wr hpk (by omega) HTP.out).mono ?_
        rintro e w2 ⟨v2, row2, rfl, hr2, hb2, hrs2⟩
        obtain ⟨a2, c2, rfl, hc2, -⟩ := hr2.shape
        obtain ⟨i0, hi0, hz0, hz1, hz2⟩ := info_parts node_info
        have HROW2 := Lib.hid (hr2)
        have HB2 := Lib.hid hb2
        have HK2 := Lib.hid (HROW.out.below hb2)
        have HBX2 := Lib.hid ((hb2.block _ hwl).trans HBX.out)
        have HSRC := Lib.hid (show Src w2 5 (.slice a2 (Tg.flat p).length c2) (Tg.flat p).length (ndCells (Tg.flat p)) by
          obtain ⟨a4, c4, q1, q2, q3⟩ := hr2.reads
          exact ⟨ndCells_len _, ndCells_one _, a4, c4, q1, q3.weaken fun _ _ => trivial⟩)
        clear hr2 hb2 hrs2
        go_wp2_with (at_builtin; refine Stop.mk ?_)
        refine Stop.of (wpList_append_row rfl _ _ 43 rfl 87 i0 _ 5 48 Tryd.underlying43 hi0 hz0 hz1 hz2 rfl (by decide) row _ _ L.length (Tg.flat p).length (ndCells L) _ rfl rfl HK2.out HSRC.out (by unfold maxLen; omega) (by omega) ?_)
        intro v7 w7 row7 hrow7 hg7 hr7
        have HROW7 := Lib.hid hrow7
        have HG7 := Lib.hid hg7
        have HR7 := Lib.hid hr7
        obtain ⟨a7, c7, rfl, hc7, -⟩ := hrow7.shape
        clear hrow7 hg7 hr7
        go_wp2_with fail
        go_roundw
        case rel =>
          refine ⟨j + 1, row7, by omega, by go_num, ?_, fun g7 h7 => ?_, ?_, ?_⟩
          · rw [HLN.out, List.length_append, ndCells_append]
            exact HROW7.out
          · rcases HR7.out with h | ⟨g', h, hg'⟩
            · exact HRG.out g7 (h ▸ h7)
            · rw [h] at h7
              injection h7 with h7
              have := HB2.out.size
              omega
          · refine ⟨HG7.out.os.trans (HB2.out.os.trans HB.out.os), HG7.out.tape.trans (HB2.out.tape.trans HB.out.tape), HG7.out.output.trans (HB2.out.output.trans HB.out.output), Nat.le_trans HB.out.size (Nat.le_trans HB2.out.size HG7.out.size), fun q hq => ?_⟩
            rw [HG7.out.block q (by have := HB2.out.size; omega) (fun e => by have := HRG.out q e.symm; omega), HB2.out.block q (by omega), HB.out.block q hq]
          · rw [HG7.out.block _ (by have := HB2.out.size; omega) (fun e => by have := HRG.out _ e.symm; omega)]
            exact HBX2.out
        case measure => simp [intOf]; omega
      · have hjl : j = ps.length := by omega
        have HF := Lib.hid (show Tg.flat (.mk c tg b v ps) = L by rw [HL.out, hjl, List.take_length]; rfl)
        clear hjl
        go_wp2_with fail
        go_ret
        rw [HF.out]
        refine ⟨_, row, rfl, HROW.out, HB.out, ?_⟩
        cases row with
        | none => exact .inl rfl
        | some g => exact .inr ⟨g, rfl, by have := HRG.out g rfl; omega⟩
end Go.Proofs.YthonjbaeadbhdaaDoor
