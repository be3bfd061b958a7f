/- Plain data that comes in; 'big'; the steps of 'grown'. -/
import Derived.Test.YthonjbaeadbhdaaDoorTagsTree0
import Derived.Test.YthonjbaeadbhdaaDoorTagsElem
import Derived.Test.YthonjbaeadbhdaaDoorTagsFirst
import Derived.Test.YthonjbaeadbhdaaDoorTagsDecode
namespace Go.Proofs.YthonjbaeadbhdaaDoor
open Go.RowKit

/-- Elements as plain data in memory. -/
def NsR (w : World) (a : Option Addr) (ns : List Tg.N) : Prop :=
  ∀ j n, ns[j]? = some n → n.cls < 256 ∧ n.tag < 4294967296 ∧ n.parts < 256 ∧ n.val.length ≤ lim ∧
    ∃ g o va vc, a = some ⟨g, o, none⟩ ∧ n.val.length ≤ vc ∧ SliceAt AnyB w va (bvs n.val) ∧ w.cell? ⟨g, o + j * 5, none⟩ = some (.int .u8 n.cls) ∧ w.cell? ⟨g, o + j * 5 + 1, none⟩ = some (.int .u32 n.tag) ∧
      w.cell? ⟨g, o + j * 5 + 2, none⟩ = some (.bool n.built) ∧ w.cell? ⟨g, o + j * 5 + 3, none⟩ = some (.slice va n.val.length vc) ∧ w.cell? ⟨g, o + j * 5 + 4, none⟩ = some (.int .u8 n.parts)
theorem cell_below {w w' : World} (hb : Below w.heap.size w w') {a : Addr} {v : Value} (h : w.cell? a = some v) : w'.cell? a = some v :=
  (World.cell?_of_block (w := w) (w' := w') (a := a) (hb.block _ (lt_of_cell h))).trans h
theorem NsR.below {w w' : World} {a : Option Addr} {ns : List Tg.N} (h : NsR w a ns) (hb : Below w.heap.size w w') : NsR w' a ns := fun j n hn => by
  obtain ⟨h1, h2, h3, h4, g, o, va, vc, ha, hl, hs, c0, c1, c2, c3, c4⟩ := h j n hn
  exact ⟨h1, h2, h3, h4, g, o, va, vc, ha, hl, hs.keep (Keeps.any hb), cell_below hb c0, cell_below hb c1, cell_below hb c2, cell_below hb c3, cell_below hb c4⟩

def SomeB (w : World) (e : Ending) (w' : World) : Prop := w = w' ∧ ∃ b, e = .returned (.bool b)
set_option maxHeartbeats 1000000 in
theorem big_any (ns : List Tg.N) (a : Option Addr) (c : Nat) (w : World) (h : NsR w a ns) (hl : ns.length ≤ lim) :
    Calls Tryd.prog 11 #[.slice a ns.length c] w (SomeB w) := by
  have H := Lib.hid h
  unfold lim at hl
  clear h
  go_enter Tryd.func11, Tryd.ntmps11
  go_wp2_with fail
  go_loop [3, 4] (fun n i => ∃ (j : Nat) (m : Int), j ≤ ns.length ∧ i = .int .i64 j ∧ n = .int .i64 m ∧ 0 ≤ m ∧ m ≤ 140737488357000) (fun _ i => ns.length - (intOf i).toNat)
  case atStart => exact ⟨0, 0, by omega, rfl, rfl, by omega, by omega⟩
  case round =>
    obtain ⟨j, m, hj, rfl, rfl, hm0, hm1⟩ := hrel
    by_cases hlt : j < ns.length
    · by_cases hm : m < 1000
      · obtain ⟨n, hn⟩ : ∃ n, ns[j]? = some n := ⟨_, List.getElem?_eq_getElem hlt⟩
        obtain ⟨h1, h2, h3, h4, g, o, va, vc, rfl, hvl, hs, c0, c1, c2, c3, c4⟩ := H.out j n hn
        unfold lim at h4
        clear hn hs h1 h2 h3
        go_wp2_with fail
        go_round
        case rel => exact ⟨j + 1, m + 1 + n.val.length / 8, by omega, by go_num, by go_num, by omega, by omega⟩
        case measure => simp [intOf]; omega
      · go_wp2_with fail
        go_ret
        exact ⟨rfl, _, rfl⟩
    · go_wp2_with fail
      go_ret
      exact ⟨rfl, _, rfl⟩
/-- The parts of an element that is built: its variable (block eb), its row of parts. -/
def KidsInv (w : World) (eb c t : Nat) (acc : List Tg.Tree) (row : Option Nat) (pa : Option Addr) (pc : Nat) (xs : List Value) (wr : World) : Prop :=
  wr.heap[eb]? = some (.cells #[.int .u8 c, .int .u32 t, .bool true, .slice none 0 0, .slice pa acc.length pc] 36 (0, 0)) ∧ Row 36 5 wr row (.slice pa acc.length pc) acc.length xs ∧
    (∀ g, row = some g → eb < g) ∧ TreesR (fun k => eb < k ∧ row ≠ some k) wr acc xs ∧ Below eb w wr ∧ eb < wr.heap.size
/-- What stays under new blocks. -/
theorem KidsInv.below {w wr w' : World} {eb c t : Nat} {acc : List Tg.Tree} {row : Option Nat} {pa : Option Addr} {pc : Nat} {xs : List Value} (h : KidsInv w eb c t acc row pa pc xs wr) (hb : Below wr.heap.size wr w') : KidsInv w eb c t acc row pa pc xs w' := by
  obtain ⟨h1, h2, h3, h4, h5, h6⟩ := h
  exact ⟨(hb.block _ h6).trans h1, h2.below hb, h3, TreesR.keep (Keeps.of_below hb _) _ _ h4, h5.trans (hb.mono (by omega)), Nat.lt_of_lt_of_le h6 hb.size⟩
/-- A part is appended. -/
theorem kids_step {w w4 w5 w6 W w7 : World} {eb c t pb : Nat} {acc : List Tg.Tree} {row row7 : Option Nat} {pa : Option Addr} {pc : Nat} {xs : List Value} {t6 : Tg.Tree} {x0 x1 x2 x3 x4 : Value} {a7 : Option Addr} {c7 : Nat} {o : Obj}
    (h : KidsInv w eb c t acc row pa pc xs w4) (hp4 : pb = w4.heap.size) (h45 : Below w4.heap.size w4 w5) (hs45 : w5.heap.size = pb + 1) (hg6 : Below w5.heap.size w5 w6)
    (ht6 : TreeR (fun k => w5.heap.size ≤ k) w6 t6 (.agg #[x0, x1, x2, x3, x4])) (hW : ∀ k, k ≠ pb → W.heap[k]? = w6.heap[k]?) (hWs : W.heap.size = w6.heap.size) (hWo : W.os = w6.os ∧ W.tape = w6.tape ∧ W.output = w6.output)
    (hrow7 : Row 36 5 w7 row7 (.slice a7 (acc.length + 1) c7) (acc.length + 1) (xs ++ [x0, x1, x2, x3, x4])) (hg7 : (W.alloc o).grownBy w7 row) (hr7 : RowStep (W.alloc o) row row7) :
    KidsInv w eb c t (acc ++ [t6]) row7 a7 c7 (xs ++ [x0, x1, x2, x3, x4]) (w7.setCell ⟨eb, 4, none⟩ (.slice a7 (acc.length + 1) c7)) := by
  have hlt4 := Row.row_lt h.2.1
  have hT4 := TreesR.weaken_lt (Nat.le_refl _) _ _ h.2.2.2.1
  have hT5 := TreesR.keep (Keeps.of_below h45 _) _ _ hT4
  have hpb : eb < pb := by have := h.2.2.2.2.2; omega
  have hrpb : row ≠ some pb := fun e => by have := hlt4 pb e; omega
  obtain ⟨h1, h2, h3, -, h5, h6⟩ := h.below h45
  have el : (acc ++ [t6]).length = acc.length + 1 := by simp
  have hs5 := hg6.size
  have hs6 : W.heap.size < (W.alloc o).heap.size := by simp
  have hlt := Row.row_lt h2
  have hs7 := hg7.size
  have hr7ok : ∀ g, row7 = some g → eb < g := fun g hh => by
    rcases hr7 with h7 | ⟨g', h7, hg'⟩
    · exact h3 g (h7 ▸ hh)
    · rw [h7] at hh
      injection hh with hh
      omega
  have hr7new : ∀ k, k < w6.heap.size → row ≠ some k → row7 ≠ some k := fun k hk hne hh => by
    rcases hr7 with h7 | ⟨g', h7, hg'⟩
    · exact hne (h7 ▸ hh)
    · rw [h7] at hh
      injection hh with hh
      omega
  have hold : ∀ k, k < w6.heap.size → k ≠ pb → row ≠ some k → w7.heap[k]? = w6.heap[k]? := fun k hk hp hr => by
    rw [hg7.block k (by omega) (fun e => hr e.symm), Below.heap_alloc _ _ _ (by omega), hW k hp]
  have hk1 : Keeps (fun k => (eb < k ∧ row ≠ some k ∧ k ≠ pb) ∧ k < w5.heap.size) w5 (w7.setCell ⟨eb, 4, none⟩ (.slice a7 (acc.length + 1) c7)) := fun k hk hl => by
    rw [Below.heap_setCell _ _ _ _ (by have := hk.1.1; simp; omega), hold k (by omega) hk.1.2.2 hk.1.2.1, hg6.block k hl]
  have hk2 : Keeps (fun k => w5.heap.size ≤ k ∧ k < w6.heap.size) w6 (w7.setCell ⟨eb, 4, none⟩ (.slice a7 (acc.length + 1) c7)) := fun k hk hl => by
    rw [Below.heap_setCell _ _ _ _ (by simp; omega), hold k hk.2 (by omega) (fun e => by have := hlt k e; omega)]
  have heb7 : w7.heap[eb]? = some (.cells #[.int .u8 c, .int .u32 t, .bool true, .slice none 0 0, .slice pa acc.length pc] 36 (0, 0)) := by
    rw [hold eb (by omega) (by omega) (fun e => by have := h3 eb e; omega), hg6.block eb h6]
    exact h1
  refine ⟨?_, ?_, hr7ok, ?_, ?_, by simp; omega⟩
  · rw [el]
    simpa using heap_set heb7 4 (.slice a7 (acc.length + 1) c7)
  · rw [el]
    refine Row.grown hrow7 (grown_setCell _ _ _) ?_
    cases h7 : row7 with
    | none => exact .inl rfl
    | some g =>
      right
      intro e
      injection e with e
      have := hr7ok g h7
      simp at e
      omega
  · refine TreesR.append acc [t6] xs _ ?_ ?_
    · refine TreesR.weaken ?_ _ _ (TreesR.keep hk1 _ _ (TreesR.weaken (fun k hk => ⟨⟨hk.1.1, hk.1.2, by omega⟩, by omega⟩) _ _ hT5))
      exact fun k hk => ⟨hk.1.1, hr7new k (by omega) hk.1.2.1⟩
    · simp only [TreesR]
      refine ⟨x0, x1, x2, x3, x4, [], rfl, TreeR.weaken (fun k hk => ⟨by omega, hr7new k hk.2 fun e => by have := hlt k e; omega⟩) _ _ (TreeR.keep hk2 _ _ (TreeR.weaken_lt (Nat.le_refl _) _ _ ht6)), rfl⟩
  · refine h5.trans ⟨?_, ?_, ?_, by simp; omega, fun k hk => ?_⟩
    · exact (hg7.os.trans hWo.1).trans hg6.os
    · exact (hg7.tape.trans hWo.2.1).trans hg6.tape
    · exact (hg7.output.trans hWo.2.2).trans hg6.output
    · rw [Below.heap_setCell _ _ _ _ (by simp; omega), hold k (by omega) (by omega) (fun e => by have := h3 k e; omega), hg6.block k (by omega)]
end Go.Proofs.YthonjbaeadbhdaaDoor
