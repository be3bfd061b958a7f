/- Contract of the decoder's element. -/
import Derived.Test.YthonjbaeadbhdaaDoorTagsElem0
import Derived.Test.YthonjbaeadbhdaaDoorTagsElemPure
import Derived.Deep.RegionHeld3
import Derived.Deep.RegionLaw
import Derived.Deep.AppendLies
import Derived.Deep.DeepCutAuto
import Derived.Deep.CutBlock
namespace Go.Proofs.YthonjbaeadbhdaaDoor
open Go.RowKit

/-- What 'element' hands back: the tree lies in new memory. -/
def ElemPost (w : World) (dk : Nat) (r : Except Nat (Tg.Tree × Nat × List UInt8)) (e : Ending) (w' : World) : Prop :=
  w.grownBy w' (some dk) ∧ match r with
  | .error k => e = raised k
  | .ok (t, cnt, rest) => ∃ x, e = .returned x ∧ TreeR (fun k => w.heap.size ≤ k) w' t x ∧ St w' dk rest cnt

theorem St.drew {w : World} {dk : Nat} {rest : List UInt8} {cnt : Nat} (h : St w dk rest cnt) : St w.drew dk rest cnt := h
theorem St.keepSet {w : World} {dk : Nat} {rest : List UInt8} {cnt : Nat} (h : St w dk rest cnt) (g i : Nat) (v : Value) (hne : dk < g) : St (w.setCell ⟨g, i, none⟩ v) dk rest cnt := by
  obtain ⟨ra, rc, hh, h1, h2, h3⟩ := h
  exact ⟨ra, rc, heap_set_other hh _ _ (by simp; omega), h1, h2, h3.keep (Keeps.of_grown (grown_setCell _ _ _) fun k hk e => by simp at e; omega)⟩
/-- Behind writes to one row of blocks above the decoder's. -/
theorem St.row {w w' : World} {dk : Nat} {rest : List UInt8} {cnt : Nat} {row : Option Nat} (h : St w dk rest cnt) (hg : w.grownBy w' row) (hne : ∀ g, row = some g → dk < g) : St w' dk rest cnt := by
  obtain ⟨ra, rc, hh, h1, h2, h3⟩ := h
  exact ⟨ra, rc, heap_grown hg hh (by intro e; have := hne _ e.symm; omega), h1, h2, h3.keep (Keeps.of_grown hg fun k hk e => by have := hne _ e.symm; omega)⟩
theorem St.off {w w' : World} {dk rb eb : Nat} {rest : List UInt8} {cnt : Nat} (h : St w dk rest cnt) (hk : ∀ k, k ≠ rb → k ≠ eb → w'.heap[k]? = w.heap[k]?) (h1 : dk < rb) (h2 : dk < eb) : St w' dk rest cnt := by
  obtain ⟨ra, rc, hh, q1, q2, q3⟩ := h
  exact ⟨ra, rc, (hk _ (by omega) (by omega)).trans hh, q1, q2, q3.keep fun k hk' _ => hk k (by omega) (by omega)⟩
theorem alloc_set_new (w : World) (a : Addr) (v : Value) (o : Obj) : ((w.setCell a v).alloc o).heap[w.heap.size]? = some o := by
  have h := alloc_new (w.setCell a v) o
  simpa using h
/-- A block that is no decoder stays. -/
theorem blk_kept {w w' : World} {g dk : Nat} {o : Obj} (h : w.heap[g]? = some o) (hg : w.grownBy w' (some dk)) (hne : g ≠ dk) : w'.heap[g]? = some o := heap_grown hg h (by intro e; injection e with e; exact hne e)
theorem St.count {w : World} {dk : Nat} {rest : List UInt8} {cnt : Nat} (h : St w dk rest cnt) (m : Int) (n : Nat) (hm : m = n) : St (w.setCell ⟨dk, 1, none⟩ (.int .i64 m)) dk rest n := by
  subst hm
  obtain ⟨ra, rc, hh, h1, h2, h3⟩ := h
  exact ⟨ra, rc, heap_set hh 1 _, h1, h2, h3.keep (Keeps.of_grown (grown_setCell _ _ _) fun k hk e => by simp at e; omega)⟩

def LenVal (m : Option Nat) (n7 : Nat) (b8 : Bool) : Prop := match m with | some n => n7 = n ∧ b8 = true ∧ n ≤ 65537 | none => n7 = 0 ∧ b8 = false
/-- The world behind the last stores: the result's block, and what stays. -/
theorem final_world (w : World) (rb eb : Nat) {o0 o1 o2 o3 o4 : Value} {T : TypeId} (h : w.heap[rb]? = some (.cells #[o0, o1, o2, o3, o4] T (0, 0))) (hne : rb ≠ eb) (a b c d e : Value) (f : Value) :
    ∃ W, W = (((((w.setCell ⟨eb, 4, none⟩ f).setCell ⟨rb, 0, none⟩ a).setCell ⟨rb, 1, none⟩ b).setCell ⟨rb, 2, none⟩ c).setCell ⟨rb, 3, none⟩ d).setCell ⟨rb, 4, none⟩ e ∧ W.heap[rb]? = some (.cells #[a, b, c, d, e] T (0, 0)) ∧
      (∀ k, k ≠ rb → k ≠ eb → W.heap[k]? = w.heap[k]?) ∧ W.heap.size = w.heap.size ∧ W.os = w.os ∧ W.tape = w.tape ∧ W.output = w.output := by
  have s1 : ∀ (w : World) (a : Addr) (v : Value), (w.setCell a v).os = w.os := fun _ _ _ => rfl
  have s2 : ∀ (w : World) (a : Addr) (v : Value), (w.setCell a v).tape = w.tape := fun _ _ _ => rfl
  have s3 : ∀ (w : World) (a : Addr) (v : Value), (w.setCell a v).output = w.output := fun _ _ _ => rfl
  refine ⟨_, rfl, ?_, ?_, by simp, by simp only [s1], by simp only [s2], by simp only [s3]⟩
  · have h1 := heap_set (heap_set (heap_set (heap_set (heap_set (heap_set_other h ⟨eb, 4, none⟩ f hne) 0 a) 1 b) 2 c) 3 d) 4 e
    simpa using h1
  · intro k h1 h2
    rw [Below.heap_setCell _ _ _ _ h1, Below.heap_setCell _ _ _ _ h1, Below.heap_setCell _ _ _ _ h1, Below.heap_setCell _ _ _ _ h1, Below.heap_setCell _ _ _ _ h1, Below.heap_setCell _ _ _ _ h2]
/-- The blocks of a new element: neither its own variables nor old ones. -/
def okE (w : World) (eb k : Nat) : Prop := w.heap.size < k ∧ k ≠ eb
/-- What holds behind the content of an element. -/
def ElemRel (w : World) (dk eb cl tg : Nat) (bb : Bool) (r : Except Nat (Tg.Tree × Nat × List UInt8)) (wt : World) : Prop :=
  ∃ (v : List UInt8) (ps : List Tg.Tree) (cnt' : Nat) (rest' : List UInt8) (va : Option Addr) (vc : Nat) (pa : Option Addr) (pc : Nat) (xs : List Value),
    r = .ok (.mk cl tg bb v ps, cnt', rest') ∧ wt.heap[eb]? = some (.cells #[.int .u8 cl, .int .u32 tg, .bool bb, .slice va v.length vc, .slice pa ps.length pc] 36 (0, 0)) ∧
    v.length ≤ lim ∧ ps.length ≤ lim ∧ v.length ≤ vc ∧ ps.length ≤ pc ∧ SliceAt (okE w eb) wt va (bvs v) ∧ SliceAt (okE w eb) wt pa xs ∧ TreesR (okE w eb) wt ps xs ∧ St wt dk rest' cnt' ∧ w.grownBy wt (some dk) ∧
    wt.heap[w.heap.size]? = some (.cells #[.int .u8 0, .int .u32 0, .bool false, .slice none 0 0, .slice none 0 0] 36 (0, 0))

/-- A part is appended. -/
theorem parts_step {w w5 w6 w7 : World} {dk eb cl tg : Nat} {bb : Bool} {acc : List Tg.Tree} {row row7 : Option Nat} {pa : Option Addr} {pc : Nat} {xs : List Value} {t6 : Tg.Tree} {x0 x1 x2 x3 x4 : Value} {a7 : Option Addr} {c7 : Nat} {o : Obj} {r6 : List UInt8} {n6 : Nat}
    (hdk : dk < w.heap.size) (heb : w.heap.size < eb) (hrow : Row 36 5 w5 row (.slice pa acc.length pc) acc.length xs) (hrok : ∀ g, row = some g → okE w eb g) (hts : TreesR (fun k => okE w eb k ∧ row ≠ some k) w5 acc xs)
    (hg5 : w.grownBy w5 (some dk)) (hrb : w5.heap[w.heap.size]? = some (.cells #[.int .u8 0, .int .u32 0, .bool false, .slice none 0 0, .slice none 0 0] 36 (0, 0)))
    (hg6 : w5.grownBy w6 (some dk)) (ht6 : TreeR (fun k => w5.heap.size ≤ k) w6 t6 (.agg #[x0, x1, x2, x3, x4])) (hst : St w6 dk r6 n6) (he5 : eb < w5.heap.size)
    (hrow7 : Row 36 5 w7 row7 (.slice a7 (acc.length + 1) c7) (acc.length + 1) (xs ++ [x0, x1, x2, x3, x4])) (hg7 : (w6.alloc o).grownBy w7 row) (hr7 : RowStep (w6.alloc o) row row7)
    (he7 : w7.heap[eb]? = some (.cells #[.int .u8 cl, .int .u32 tg, .bool bb, .slice none 0 0, .slice pa acc.length pc] 36 (0, 0))) :
    (w7.setCell ⟨eb, 4, none⟩ (.slice a7 (acc.length + 1) c7)).heap[eb]? = some (.cells #[.int .u8 cl, .int .u32 tg, .bool bb, .slice none 0 0, .slice a7 (acc ++ [t6]).length c7] 36 (0, 0)) ∧
    Row 36 5 (w7.setCell ⟨eb, 4, none⟩ (.slice a7 (acc.length + 1) c7)) row7 (.slice a7 (acc ++ [t6]).length c7) (acc ++ [t6]).length (xs ++ [x0, x1, x2, x3, x4]) ∧ (∀ g, row7 = some g → okE w eb g) ∧
    TreesR (fun k => okE w eb k ∧ row7 ≠ some k) (w7.setCell ⟨eb, 4, none⟩ (.slice a7 (acc.length + 1) c7)) (acc ++ [t6]) (xs ++ [x0, x1, x2, x3, x4]) ∧ St (w7.setCell ⟨eb, 4, none⟩ (.slice a7 (acc.length + 1) c7)) dk r6 n6 ∧
    w.grownBy (w7.setCell ⟨eb, 4, none⟩ (.slice a7 (acc.length + 1) c7)) (some dk) ∧ (w7.setCell ⟨eb, 4, none⟩ (.slice a7 (acc.length + 1) c7)).heap[w.heap.size]? = some (.cells #[.int .u8 0, .int .u32 0, .bool false, .slice none 0 0, .slice none 0 0] 36 (0, 0)) := by
  have el : (acc ++ [t6]).length = acc.length + 1 := by simp
  have hs5 := hg6.size
  have hs6 : w6.heap.size < (w6.alloc o).heap.size := by simp
  have hlt := Row.row_lt hrow
  have hrne : ∀ g, row = some g → dk < g := fun g h => by have := (hrok g h).1; omega
  have hr7ok : ∀ g, row7 = some g → okE w eb g := fun g h => by
    rcases hr7 with h7 | ⟨g', h7, hg'⟩
    · exact hrok g (h7 ▸ h)
    · rw [h7] at h
      injection h with h
      subst h
      exact ⟨by have := hg5.size; omega, by omega⟩
  have hr7new : ∀ k, k < w6.heap.size → row ≠ some k → row7 ≠ some k := fun k hk hne h => by
    rcases hr7 with h7 | ⟨g', h7, hg'⟩
    · exact hne (h7 ▸ h)
    · rw [h7] at h
      injection h with h
      omega
  have hk1 : Keeps (fun k => (okE w eb k ∧ row ≠ some k) ∧ k < w5.heap.size) w5 (w7.setCell ⟨eb, 4, none⟩ (.slice a7 (acc.length + 1) c7)) := fun k hk hl => by
    rw [Below.heap_setCell _ _ _ _ hk.1.1.2, hg7.block k (by omega) (fun e => hk.1.2 e.symm), Below.heap_alloc _ _ _ (by omega), hg6.block k hl (fun e => by injection e with e; have := hk.1.1.1; omega)]
  have hk2 : Keeps (fun k => w5.heap.size ≤ k ∧ k < w6.heap.size) w6 (w7.setCell ⟨eb, 4, none⟩ (.slice a7 (acc.length + 1) c7)) := fun k hk hl => by
    rw [Below.heap_setCell _ _ _ _ (by simp; omega), hg7.block k (by omega) (fun e => by have := hlt k e.symm; omega), Below.heap_alloc _ _ _ hl]
  refine ⟨?_, ?_, hr7ok, ?_, ?_, ?_, ?_⟩
  · rw [el]
    exact heap_set he7 4 _
  · rw [el]
    refine Row.grown hrow7 (grown_setCell _ _ _) ?_
    cases h7 : row7 with
    | none => exact .inl rfl
    | some g =>
      right
      intro e
      injection e with e
      exact (hr7ok g h7).2 e
  · refine TreesR.append acc [t6] xs _ (TreesR.weaken (fun k hk => ⟨hk.1.1, hr7new k (by omega) hk.1.2⟩) _ _ (TreesR.keep hk1 _ _ (TreesR.weaken_lt (Nat.le_refl _) _ _ hts))) ?_
    simp only [TreesR]
    refine ⟨x0, x1, x2, x3, x4, [], rfl, TreeR.weaken (fun k hk => ⟨⟨by have := hg5.size; omega, by omega⟩, hr7new k hk.2 fun e => by have := hlt k e; omega⟩) _ _ (TreeR.keep hk2 _ _ (TreeR.weaken_lt (Nat.le_refl _) _ _ ht6)), rfl⟩
  · exact ((hst.alloc o).row hg7 hrne).keepSet eb 4 _ (by omega)
  · have h6 := grown_trans (grown_trans hg5 hg6) (grown_alloc w6 o (some dk))
    refine grown_new' ?_ (grown_setCell _ _ _) (by simp; omega)
    refine ⟨hg7.os.trans h6.os, hg7.tape.trans h6.tape, hg7.output.trans h6.output, Nat.le_trans h6.size hg7.size, fun k hk hd => (hg7.block k (Nat.lt_of_lt_of_le hk h6.size) fun e => ?_).trans (h6.block k hk hd)⟩
    have := (hrok k e.symm).1
    omega
  · rw [Below.heap_setCell _ _ _ _ (by simp; omega), hg7.block _ (by have := lt_of_block hrb; omega) (fun e => by have := (hrok _ e.symm).1; omega), Below.heap_alloc _ _ _ (by have := lt_of_block hrb; omega)]
    exact heap_grown hg6 hrb (by intro e; injection e with e; omega)

/-- The loop over the parts of an element with a length. -/
def ClosedInv (w : World) (dk eb cl tg d cnt0 k0 : Nat) (r0 : List UInt8) (k : Nat) (wr : World) : Prop :=
  ∃ (n' : Nat) (r' : List UInt8) (acc : List Tg.Tree) (row : Option Nat) (pa : Option Addr) (pc : Nat) (xs : List Value),
    Tg.closedD (Tg.elemD d) k n' r' acc = Tg.closedD (Tg.elemD d) k0 cnt0 r0 [] ∧ r'.length < k ∧ n' ≤ 1024 ∧ acc.length ≤ n' ∧
    wr.heap[eb]? = some (.cells #[.int .u8 cl, .int .u32 tg, .bool true, .slice none 0 0, .slice pa acc.length pc] 36 (0, 0)) ∧
    Row 36 5 wr row (.slice pa acc.length pc) acc.length xs ∧ (∀ g, row = some g → okE w eb g) ∧ TreesR (fun k => okE w eb k ∧ row ≠ some k) wr acc xs ∧ St wr dk r' n' ∧ w.grownBy wr (some dk) ∧
    wr.heap[w.heap.size]? = some (.cells #[.int .u8 0, .int .u32 0, .bool false, .slice none 0 0, .slice none 0 0] 36 (0, 0))
/-- The loop over the parts of an element without a length. -/
def OpenInv (w : World) (dk eb cl tg : Nat) (bb : Bool) (d cnt0 : Nat) (r0 : List UInt8) (k : Nat) (wr : World) : Prop :=
  ∃ (n' : Nat) (r' : List UInt8) (acc : List Tg.Tree) (row : Option Nat) (pa : Option Addr) (pc : Nat) (xs : List Value),
    Tg.openD (Tg.elemD d) k n' r' acc = Tg.openD (Tg.elemD d) (r0.length + 1) cnt0 r0 [] ∧ r'.length < k ∧ n' ≤ 1024 ∧ acc.length ≤ n' ∧
    wr.heap[eb]? = some (.cells #[.int .u8 cl, .int .u32 tg, .bool bb, .slice none 0 0, .slice pa acc.length pc] 36 (0, 0)) ∧
    Row 36 5 wr row (.slice pa acc.length pc) acc.length xs ∧ (∀ g, row = some g → okE w eb g) ∧ TreesR (fun k => okE w eb k ∧ row ≠ some k) wr acc xs ∧ St wr dk r' n' ∧ w.grownBy wr (some dk) ∧
    wr.heap[w.heap.size]? = some (.cells #[.int .u8 0, .int .u32 0, .bool false, .slice none 0 0, .slice none 0 0] 36 (0, 0))

set_option maxRecDepth 100000 in
set_option maxHeartbeats 2000000 in
theorem element_any (d : Nat) : ∀ (D : Int) (dk : Nat) (rest : List UInt8) (cnt : Nat) (w : World), D = 17 - d → d ≤ 16 → cnt ≤ 1024 → St w dk rest cnt →
    Calls Tryd.prog 43 #[.pointer (some ⟨dk, 0, none⟩), .int .i64 D] w (ElemPost w dk (Tg.elemD d cnt rest)) := by
  induction d with
  | zero =>
    intro D dk rest cnt w hD hd hcnt h
    subst hD
    go_enter Tryd.func43, Tryd.ntmps43
    go_wp2_with fail
    refine (must_any _ _ _).mono ?_
    rintro e w2 ⟨rfl, rfl⟩
    unfold raised
    go_wp2_with fail
    exact ⟨rfl, grown_alloc _ _ _, rfl⟩
  | succ d ih =>
    intro D dk rest cnt w hD hd hcnt h
    have IH := Lib.hid ih
    have HS0 := Lib.hid h
    have HST := Lib.hid (h.alloc (.cells #[.int .u8 0, .int .u32 0, .bool false, .slice none 0 0, .slice none 0 0] 36))
    have hdk := h.lt
    obtain ⟨ra, rc, hh, q1, q2, q3⟩ := HST.out
    obtain ⟨c0, c1⟩ := St.two hh
    have f1 := free_of hh 1
    have HD := Lib.hid hD
    have hD1 : D ≤ 16 := by omega
    have hD0 : 1 ≤ D := by omega
    clear hh q1 q2 q3 ih h hD
    by_cases hfull : 1024 ≤ cnt
    · have HF := Lib.hid (elemD_full (d + 1) cnt rest hfull)
      go_enter Tryd.func43, Tryd.ntmps43
      go_wp2_with fail
      refine (must_any _ _ _).mono ?_
      rintro e w2 ⟨rfl, rfl⟩
      rw [show decide ((cnt : Int) < 1024) = false by simp; omega]
      unfold raised
      go_wp2_with fail
      refine ⟨rfl, ?_⟩
      rw [HF.out]
      exact ⟨grown_alloc _ _ _, rfl⟩
    have hcnt2 : cnt < 1024 := by omega
    go_enter Tryd.func43, Tryd.ntmps43
    go_wp2_with fail
    refine (must_any _ _ _).mono ?_
    rintro e w2 ⟨rfl, rfl⟩
    rw [show decide ((cnt : Int) < 1024) = true by simp; omega]
    go_wp2_with fail
    refine (next_any dk rest (cnt + 1) _ ((HS0.out.count ((cnt : Int) + 1) (cnt + 1) (by omega)).alloc _)).mono ?_
    intro e w1 hp
    have hg0 : w.grownBy ((w.setCell ⟨dk, 1, none⟩ (.int .i64 ((cnt : Int) + 1))).alloc (.cells #[.int .u8 0, .int .u32 0, .bool false, .slice none 0 0, .slice none 0 0] 36)) (some dk) := grown_trans (grown_setCell _ _ _) (grown_alloc _ _ _)
    cases rest with
    | nil =>
      obtain ⟨rfl, rfl⟩ := hp
      have HG0 := Lib.hid hg0
      clear hg0
      unfold raised
      go_wp2_with fail
      refine ⟨rfl, ?_⟩
      rw [elemD_nil d cnt hcnt2]
      exact ⟨HG0.out, rfl⟩
    | cons x r =>
      obtain ⟨rfl, hst, hg⟩ := hp
      have hx := x.toNat_lt
      have HST1 := Lib.hid hst
      have HG1 := Lib.hid (grown_trans hg0 hg)
      have HRB1 := Lib.hid (blk_kept (alloc_set_new w ⟨dk, 1, none⟩ (.int .i64 ((cnt : Int) + 1)) (.cells #[.int .u8 0, .int .u32 0, .bool false, .slice none 0 0, .slice none 0 0] 36)) hg (by omega))
      clear hst hg hg0 HST HS0
      obtain ⟨tag0, ht0⟩ : ∃ n, n = x.toNat % 32 := ⟨_, rfl⟩
      obtain ⟨b32, hb32⟩ : ∃ n, n = x.toNat / 32 % 2 * 32 := ⟨_, rfl⟩
      have hb32' : b32 ≤ 32 := by omega
      have htag0 : tag0 < 32 := by omega
      have hand1 : bits .and .u8 (x.toNat : Int) 32 = (b32 : Int) := by
        rw [show (32 : Int) = ((32 : Nat) : Int) from rfl, u8_and_nat _ _ hx (by omega), hb32, and32 x.toNat hx]
      have hand2 : bits .and .u8 (x.toNat : Int) 31 = (tag0 : Int) := by
        rw [show (31 : Int) = ((31 : Nat) : Int) from rfl, and_u8 5 31 rfl (x.toNat : Int) (by omega) (by omega) (by omega), ht0]
        simp
      have HT0 := Lib.hid ht0
      have HB32 := Lib.hid hb32
      clear ht0 hb32
      obtain ⟨cl, hcl⟩ : ∃ n : Nat, n = x.toNat / 64 := ⟨_, rfl⟩
      have hcl4 : cl < 4 := by omega
      have hclz : (x.toNat : Int) / 64 = (cl : Int) := by omega
      obtain ⟨bb, hbb⟩ : ∃ b : Bool, b = decide (x.toNat / 32 % 2 = 1) := ⟨_, rfl⟩
      have hb0 : decide (0 < b32) = bb := by rw [hbb, HB32.out]; simp; omega
      have HCL := Lib.hid hcl
      have HBB := Lib.hid hbb
      obtain ⟨eb, heb⟩ : ∃ n, n = w1.heap.size := ⟨_, rfl⟩
      have heb1 : w.heap.size < eb := by
        have h1 := lt_of_block HRB1.out
        omega
      have HEB := Lib.hid heb
      have HSTa := Lib.hid (HST1.out.alloc (.cells #[.int .u8 cl, .int .u32 tag0, .bool bb, .slice none 0 0, .slice none 0 0] 36))
      have HEBa := Lib.hid (show (w1.alloc (.cells #[.int .u8 cl, .int .u32 tag0, .bool bb, .slice none 0 0, .slice none 0 0] 36)).heap[eb]? = some (.cells #[.int .u8 cl, .int .u32 tag0, .bool bb, .slice none 0 0, .slice none 0 0] 36) by rw [heb]; exact alloc_new w1 _)
      have hsz1 : w1.heap.size = eb := heb.symm
      clear hcl hbb heb HB32
      go_upto_if 43 with (fail)
      go_cut [] (fun wt => ∃ (tg : Nat) (r2 : List UInt8), tg ≤ 2097151 ∧ Hid (Tg.tagD x.toNat r = .ok (tg, r2)) ∧ Hid (St wt dk r2 (cnt + 1)) ∧ Hid (w.grownBy wt (some dk)) ∧ Hid (wt.heap[w.heap.size]? = some (.cells #[.int .u8 0, .int .u32 0, .bool false, .slice none 0 0, .slice none 0 0] 36)) ∧
        Hid (wt.heap[eb]? = some (.cells #[.int .u8 cl, .int .u32 tg, .bool bb, .slice none 0 0, .slice none 0 0] 36)))
      case first =>
        by_cases h31 : tag0 = 31
        · have hb31 : ((tag0 : Int) == 31) = true := by rw [h31]; rfl
          have HTD := Lib.hid (show Tg.tagD x.toNat r = Tg.numberD true 0 r by unfold Tg.tagD; rw [if_pos (by rw [← HT0.out]; exact h31)])
          clear h31
          go_wp2_with fail
          refine (number_any dk r (cnt + 1) _ HSTa.out).mono ?_
          intro e w3 hp
          obtain ⟨hg3, hp⟩ := hp
          generalize Tg.numberD true 0 r = res at *
          cases res with
          | error k =>
            simp only at hp
            subst hp
            have HG3 := Lib.hid (grown_trans (grown_trans HG1.out (grown_alloc _ _ _)) hg3)
            clear hg3
            unfold raised
            go_wp2_with fail
            refine ⟨rfl, ?_⟩
            rw [elemD_tag_err hcnt2 HTD.out]
            exact ⟨HG3.out, rfl⟩
          | ok v =>
            obtain ⟨tg, r2⟩ := v
            obtain ⟨rfl, hst3, htg⟩ := hp
            have hE := heap_grown hg3 HEBa.out (by intro e; injection e with e; omega)
            obtain ⟨e0, e1, e2, e3, e4⟩ := five_cells hE
            obtain ⟨g0, g1, g2, g3, g4⟩ := five_free hE
            have HE3 := Lib.hid hE
            have HST3 := Lib.hid hst3
            have HG3 := Lib.hid (grown_trans (grown_trans HG1.out (grown_alloc _ _ _)) hg3)
            have HRB3 := Lib.hid (blk_kept (heap_alloc HRB1.out _) hg3 (by omega))
            clear hst3 hg3 hE
            go_wp2_with fail
            go_meet
            case rel =>
              refine ⟨tg, r2, htg, HTD, ?_, ?_, ?_, ?_⟩
              · exact HST3.out.keepSet eb 1 _ (by omega)
              · exact grown_new' HG3.out (grown_setCell _ _ _) (by simp; omega)
              · exact heap_set_other HRB3.out _ _ (by simp; omega)
              · exact heap_set HE3.out 1 _
        · have hb31 : ((tag0 : Int) == 31) = false := by simp; omega
          have HTD := Lib.hid (show Tg.tagD x.toNat r = .ok (tag0, r) by unfold Tg.tagD; rw [if_neg (by rw [← HT0.out]; exact h31), HT0.out])
          clear h31
          go_wp2_with fail
          go_meet
          case rel => exact ⟨tag0, r, by omega, HTD, HSTa, grown_trans HG1.out (grown_alloc _ _ _), heap_alloc HRB1.out _, HEBa⟩
      case rest =>
        obtain ⟨tg, r2, htg, HTD, HSTt, HGt, HRBt, HEt⟩ := hcut
        clear HST1 HG1 HRB1 HSTa HEBa HT0 hand1 hand2 htag0 hb32' hclz hb0 hsz1
        have hE := HEt.out
        obtain ⟨e0, e1, e2, e3, e4⟩ := five_cells hE
        clear hE
        by_cases h0 : cl = 0 ∧ tg = 0
        · obtain ⟨rfl, rfl⟩ := h0
          go_wp2_with fail
          refine (must_any _ _ _).mono ?_
          rintro e w2 ⟨rfl, rfl⟩
          unfold raised
          go_wp2_with fail
          refine ⟨rfl, ?_⟩
          rw [elemD_zero hcnt2 HTD.out ⟨HCL.out.symm, rfl⟩]
          exact ⟨HGt.out, rfl⟩
        have HN0 := Lib.hid (show ¬ (x.toNat / 64 = 0 ∧ tg = 0) by rw [← HCL.out]; exact h0)
        go_upto_region 7 with (fail)
        go_cut [] (fun w' => wc = w')
        case first =>
          rcases Nat.eq_zero_or_pos cl with hz | hz
          · have htg0 : 0 < tg := by omega
            subst hz
            clear h0
            go_wp2_with fail
            refine (must_any _ _ _).mono ?_
            rintro e w2 ⟨rfl, rfl⟩
            go_wp2_with fail
            go_meet
            case rel => rfl
          · clear h0
            go_wp2_with fail
            refine (must_any _ _ _).mono ?_
            rintro e w2 ⟨rfl, rfl⟩
            go_wp2_with fail
            go_meet
            case rel => rfl
        case rest =>
          subst hcut
          clear h0
          go_wp2_with fail
          refine (length_any dk r2 (cnt + 1) _ HSTt.out _ _ bb _ _ _ _ _ _).mono ?_
          intro e w4 hp
          obtain ⟨hg4, hp⟩ := hp
          rw [HBB.out] at hp
          have HLD := Lib.hid (rfl : Tg.lengthD (decide (x.toNat / 32 % 2 = 1)) r2 = Tg.lengthD (decide (x.toNat / 32 % 2 = 1)) r2)
          generalize hres : Tg.lengthD (decide (x.toNat / 32 % 2 = 1)) r2 = res at hp
          clear HLD
          have HRES := Lib.hid hres
          clear hres
          have HG4 := Lib.hid (grown_trans HGt.out hg4)
          have HRB4 := Lib.hid (blk_kept HRBt.out hg4 (by omega))
          have HE4 := Lib.hid (blk_kept HEt.out hg4 (by omega))
          clear hg4 HGt HRBt HEt HSTt e0 e1 e2 e3 e4
          cases res with
          | error k =>
            simp only at hp
            subst hp
            unfold raised
            go_wp2_with fail
            refine ⟨rfl, ?_⟩
            rw [elemD_len_err hcnt2 HTD.out HN0.out HRES.out]
            exact ⟨HG4.out, rfl⟩
          | ok v =>
            obtain ⟨m, r3⟩ := v
            have HEL := Lib.hid (elemD_ok (d := d) hcnt2 HTD.out HN0.out HRES.out)
            rw [← HBB.out, ← HCL.out] at HEL
            clear HTD HN0 HBB HCL
            obtain ⟨n7, b8, rfl, hnb, hst4⟩ : ∃ (n7 : Nat) (b8 : Bool), e = .returned (.tuple #[.int .i64 n7, .bool b8]) ∧ LenVal m n7 b8 ∧ St w4 dk r3 (cnt + 1) := by
              cases m with
              | none => exact ⟨0, false, hp.1, ⟨rfl, rfl⟩, hp.2⟩
              | some n => exact ⟨n, true, hp.1, ⟨rfl, rfl, hp.2.2⟩, hp.2.1⟩
            have HST4 := Lib.hid hst4
            have HNB := Lib.hid hnb
            clear hp hst4 hnb
            go_upto_block 0 with (fail)
            go_cut [] (fun wt => ElemRel w dk eb cl tg bb (Tg.elemD (d + 1) cnt (x :: r)) wt)
            case rest =>
              obtain ⟨v, ps, cnt', rest', va, vc, pa, pc, xs, hr, hE, hv, hps, hvc, hpc, hsv, hsp, hts, hst, hg, hrb⟩ := hcut
              have HR := Lib.hid hr
              have HE := Lib.hid hE
              have HSV := Lib.hid hsv
              have HSP := Lib.hid hsp
              have HTS := Lib.hid hts
              have HS := Lib.hid hst
              have HG := Lib.hid hg
              have HRB := Lib.hid hrb
              obtain ⟨e0, e1, e2, e3, e4⟩ := five_cells hE
              obtain ⟨g0, g1, g2, g3, g4⟩ := five_free hE
              obtain ⟨k0, k1, k2, k3, k4⟩ := five_cells hrb
              obtain ⟨q0, q1, q2, q3, q4⟩ := five_free hrb
              clear hr hE hsv hsp hts hst hg hrb HEL HG4 HRB4 HE4 HST4 HNB
              have hne : w.heap.size ≠ eb := by omega
              go_wp2_with fail
              refine (clip_trees AnyB pa ps.length pc _ hpc hps).mono ?_
              rintro e w5 ⟨rfl, rfl⟩
              go_wp2_with fail
              obtain ⟨W, hW, hblk, hkeep, hsize, hos, htape, hout⟩ := final_world wc w.heap.size eb HRB.out hne _ _ _ _ _ (.slice pa ps.length ps.length)
              rw [← hW]
              obtain ⟨z0, z1, z2, z3, z4⟩ := five_cells hblk
              refine bodyPost_ret (v := .agg #[.int .u8 cl, .int .u32 tg, .bool bb, .slice va v.length vc, .slice pa ps.length ps.length]) (by simp [results, Tryd.results43, go_sem, z0, z1, z2, z3, z4]) rfl ?_
              rw [HR.out]
              have hk : Keeps (okE w eb) wc W := fun k hk _ => hkeep k (by have := hk.1; omega) hk.2
              refine ⟨⟨hos.trans HG.out.os, htape.trans HG.out.tape, hout.trans HG.out.output, by rw [hsize]; exact HG.out.size, fun k hk hd => (hkeep k (by omega) (by omega)).trans (HG.out.block k hk hd)⟩, _, rfl, ?_, ?_⟩
              · simp only [TreeR]
                exact ⟨by omega, by omega, hv, hps, va, vc, pa, ps.length, rfl, hvc, Nat.le_refl _, (HSV.out.keep hk).weaken fun k h => by have := h.1; omega, xs, (HSP.out.keep hk).weaken fun k h => by have := h.1; omega, TreesR.weaken (fun k h => by have := h.1; omega) _ _ (TreesR.keep hk _ _ HTS.out)⟩
              · exact HS.out.off hkeep (by omega) (by omega)
            case first =>
              have hnb := HNB.out
              clear HNB
              cases m with
              | none =>
                obtain ⟨rfl, rfl⟩ := hnb
                go_wp2_with fail
                go_loopg [] (r3.length + 1) (fun k wr => OpenInv w dk eb cl tg bb d (cnt + 1) r3 k wr)
                case atStart =>
                  exact ⟨cnt + 1, r3, [], none, none, 0, [], rfl, by simp, by omega, by simp, HE4.out, Row.nil _ _ _ _, by simp, rfl, HST4.out, HG4.out, HRB4.out⟩
                case round =>
                  obtain ⟨n', r', acc, row, pa, pc, xs, hop, hk, hn', hacc, hE, hrow, hrok, hts, hst, hg, hrb⟩ := hrel
                  have HOP := Lib.hid hop
                  have HE := Lib.hid hE
                  have HROW := Lib.hid hrow
                  have HROK := Lib.hid hrok
                  have HTS := Lib.hid hts
                  have HS := Lib.hid hst
                  have HG := Lib.hid hg
                  have HRB := Lib.hid hrb
                  clear hop hE hrow hrok hts hst hg hrb HG4 HRB4 HE4 HST4
                  go_wp2_with fail
                  refine (ahead_any dk r' n' _ HS.out).mono ?_
                  intro e w5 hp
                  obtain ⟨hg5, hp⟩ := hp
                  obtain ⟨kk, rfl⟩ : ∃ m, gk = m + 1 := ⟨gk - 1, by omega⟩
                  generalize hra : Tg.aheadD r' = ra at hp
                  have HRA := Lib.hid hra
                  clear hra
                  have HG5 := Lib.hid (grown_trans HG.out hg5)
                  have HRB5 := Lib.hid (blk_kept HRB.out hg5 (by omega))
                  have HE5 := Lib.hid (blk_kept HE.out hg5 (by omega))
                  have HROW5 := Lib.hid (HROW.out.grown hg5 (by cases hrw : row with | none => exact .inl rfl | some g => have := HROK.out g hrw; right; intro e; injection e with e; have := this.1; omega))
                  have HTS5 := Lib.hid (TreesR.keep (Keeps.of_grown hg5 fun k hk e => by injection e with e; have := hk.1.1; omega) _ _ HTS.out)
                  clear hg5 HG HRB HE HROW HTS HS
                  cases ra with
                  | error k =>
                    simp only at hp
                    subst hp
                    have HF := Lib.hid (show Tg.openD (Tg.elemD d) (r3.length + 1) (cnt + 1) r3 [] = .error k by rw [← HOP.out]; simp only [Tg.openD, HRA.out])
                    unfold raised
                    go_wp2_with fail
                    refine ⟨rfl, ?_⟩
                    rw [HEL.out]
                    simp only [Tg.contentD, HF.out]
                    exact ⟨HG5.out, rfl⟩
                  | ok v =>
                    obtain ⟨ab, r5⟩ := v
                    obtain ⟨rfl, hst5⟩ := hp
                    have HST5 := Lib.hid hst5
                    have HRL := Lib.hid (Tg.aheadD_rest HRA.out)
                    clear hst5
                    cases ab
                    · have HF := Lib.hid (show Tg.openD (Tg.elemD d) (r3.length + 1) (cnt + 1) r3 [] = .ok (acc, n', r5) by rw [← HOP.out]; simp only [Tg.openD, HRA.out])
                      go_wp2_with fail
                      go_meet
                      case rel =>
                        obtain ⟨a9, c9, he9, hc9, hs9⟩ := HROW5.out.reads
                        injection he9 with q1 q2 q3
                        subst q1
                        subst q3
                        refine ⟨[], acc, n', r5, none, 0, pa, pc, xs, ?_, HE5.out, by simp, by unfold lim; omega, by simp, hc9, .inl rfl, hs9.weaken fun k hk => HROK.out k hk, TreesR.weaken (fun k hk => hk.1) _ _ HTS5.out, HST5.out, HG5.out, HRB5.out⟩
                        rw [HEL.out]
                        simp only [Tg.contentD, HF.out]
                    · go_wp2_with fail
                      have hE4 := cell_of HE5.out 4
                      simp at hE4
                      obtain ⟨i0, hi, hz0, hz1, hz2⟩ := info_parts tree_info
                      have hwr : IntKind.i64.wrap (D + 1) = D + 1 := IntWalk.i64_in _ (by omega)
                      have HIH := Lib.hid (IH.out (D + 1) dk r5 n' w5.drew (by have := HD.out; omega) (by omega) hn' (St.drew HST5.out))
                      have HEQ := Lib.hid (show ∀ res, Tg.elemD d n' r5 = res → Tg.openD (Tg.elemD d) (r3.length + 1) (cnt + 1) r3 [] = (match res with | .error e => .error e | .ok (t, n2, r2) => Tg.openD (Tg.elemD d) kk n2 r2 (acc ++ [t])) by
                        intro res hres
                        rw [← HOP.out, ← hres]
                        simp only [Tg.openD, HRA.out]
                        rfl)
                      have HGOOD := Lib.hid (Tg.elemD_good d n' r5)
                      have HREB : Hid (some eb ≠ row) := by
                        intro e
                        have := HROK.out eb e.symm
                        exact this.2 rfl
                      have HRN : Hid (row = none ∨ row ≠ some dk) := by
                        cases hrw : row with
                        | none => exact .inl rfl
                        | some g => have := HROK.out g hrw; right; intro e; injection e with e; have := this.1; omega
                      have HFERR := Lib.hid (show ∀ k, Tg.elemD d n' r5 = .error k → Tg.elemD (d + 1) cnt (x :: r) = .error k by
                        intro k hk
                        rw [HEL.out]
                        simp only [Tg.contentD, HEQ.out _ hk])
                      obtain ⟨res, hres⟩ : ∃ res, res = Tg.elemD d n' r5 := ⟨_, rfl⟩
                      have HRES2 := Lib.hid hres
                      rw [← hres] at HIH
                      clear hres
                      go_region_law (first
                        | (go_simp
                           go_at_call 43
                           refine HIH.out.mono ?_
                           rintro e w6 ⟨hg6, hp⟩
                           rcases res with k | ⟨t6, n6, r6⟩
                           · simp only at hp
                             subst hp
                             refine ⟨rfl, ?_⟩
                             rw [HFERR.out k HRES2.out.symm]
                             exact ⟨grown_trans HG5.out (grown_trans (grown_drew _ _) hg6), rfl⟩
                           obtain ⟨x6, rfl, ht6, hst6⟩ := hp
                           obtain ⟨va6, vc6, pa6, pc6, rfl⟩ := ht6.form
                           have HE6 := Lib.hid (heap_grown hg6 HE5.out (by intro e; injection e with e; omega))
                           have hE6 := cell_of HE6.out 4
                           simp at hE6
                           have hl6 := lt_of_block HE6.out
                           have HG6 := Lib.hid (grown_trans (grown_drew w5 (some dk)) hg6)
                           have HT6 := Lib.hid ht6
                           have HS6 := Lib.hid hst6
                           clear hg6 ht6 hst6)
                        | (refine step_append_row rfl _ _ 34 rfl 36 i0 _ 5 64 Tryd.underlying34 hi hz0 hz1 hz2 rfl (by decide) row _ _ acc.length 1 xs _ rfl rfl (Row.grown (Row.grown HROW5.out HG6.out HRN.out) (grown_alloc _ _ none) (by cases row <;> simp)) (src_tree w6 _ _ _ _ _ rfl rfl rfl rfl rfl rfl) (by unfold maxLen; omega) (by omega) ?_
                           intro v7 w7 row7 hrow7 hg7 hr7
                           obtain ⟨a7, c7, rfl, hc7, -⟩ := hrow7.shape
                           have HE7 := Lib.hid (heap_grown hg7 (heap_alloc HE6.out _) (HREB.out))
                           have hE7 := cell_of HE7.out 4
                           simp at hE7
                           have hF7 := free_of HE7.out 4
                           have HROW7 := Lib.hid hrow7
                           have HG7 := Lib.hid hg7
                           have HR7 := Lib.hid hr7
                           clear hrow7 hg7 hr7))
                      all_goals
                        go_wp2_with fail
                        go_roundg kk
                        case measure => omega
                        case rel =>
                          have hgood := Tg.elemD_good d n' r5 t6 n6 r6 HRES2.out.symm
                          have hrl := HRL.out.1
                          obtain ⟨m1, m2, m3, m4, m5, m6, m7⟩ := parts_step (t6 := t6) hdk heb1 HROW5.out HROK.out HTS5.out HG5.out HRB5.out HG6.out HT6.out HS6.out (lt_of_block HE5.out) HROW7.out HG7.out HR7.out HE7.out
                          exact ⟨n6, r6, acc ++ [t6], row7, a7, c7, _, (HEQ.out _ HRES2.out.symm).symm, by omega, hgood.2.1, by simp; omega, m1, m2, m3, m4, m5, m6, m7⟩
              | some n =>
                obtain ⟨rfl, rfl, hn⟩ := hnb
                obtain ⟨e0, e1, e2, e3, e4⟩ := five_cells HE4.out
                cases bb
                · skip
                  go_wp2_with fail
                  refine (take_any dk r3 (cnt + 1) n7 _ rfl _ HST4.out (by unfold lim; omega)).mono ?_
                  intro e w5 hp
                  unfold TakePost at hp
                  by_cases hlt : r3.length < n7
                  · rw [if_pos hlt] at hp
                    obtain ⟨rfl, rfl⟩ := hp
                    unfold raised
                    go_wp2_with fail
                    refine ⟨rfl, ?_⟩
                    rw [HEL.out]
                    simp only [Tg.contentD]
                    rw [if_pos hlt]
                    exact ⟨HG4.out, rfl⟩
                  · rw [if_neg hlt] at hp
                    obtain ⟨a5, c5, rfl, hc5, hs5, hst5, hg5⟩ := hp
                    obtain ⟨l5, hl5⟩ : ∃ l, l = r3.take n7 := ⟨_, rfl⟩
                    have hll : l5.length = n7 := by rw [hl5, List.length_take]; omega
                    rw [← hl5] at hs5
                    have HFIN := Lib.hid (show Tg.elemD (d + 1) cnt (x :: r) = .ok (.mk cl tg false l5 [], cnt + 1, r3.drop n7) by
                      rw [HEL.out, hl5]
                      simp only [Tg.contentD]
                      rw [if_neg hlt]
                      simp)
                    have HB5 := Lib.hid (show BytesR (fun k => k < dk) w5 (.slice a5 l5.length c5) l5 from ⟨a5, c5, rfl, by omega, by unfold lim; omega, hs5⟩)
                    have HST5 := Lib.hid hst5
                    have HG5 := Lib.hid (grown_trans HG4.out hg5)
                    have HRB5 := Lib.hid (blk_kept HRB4.out hg5 (by omega))
                    have HE5 := Lib.hid (blk_kept HE4.out hg5 (by omega))
                    clear hl5
                    subst hll
                    clear hs5 hst5 hg5 HEL HG4 HRB4 HE4 HST4 e0 e1 e2 e3 e4
                    go_wp2_with fail
                    refine (clone_bytes2 _ _ l5 _ HB5.out).mono ?_
                    rintro e w6 ⟨v6, r6, rfl, hb6, hbl6, hr6⟩
                    have hlim5 : l5.length ≤ lim := by unfold lim; omega
                    have HB6 := Lib.hid (BytesR.weaken (ok' := fun k => w5.heap.size ≤ k) (fun k hk => by
                      rcases hr6 with h | ⟨g, h, hg⟩
                      · rw [h] at hk; cases hk
                      · rw [h] at hk
                        injection hk with hk
                        omega) (hb6.reads hlim5))
                    obtain ⟨a6, c6, rfl, hc6⟩ := hb6.shape
                    have HST6 := Lib.hid (HST5.out.below hbl6)
                    have HG6 := Lib.hid (grown_trans HG5.out (grown_below hbl6 _))
                    have HRB6 := Lib.hid ((hbl6.block _ (lt_of_block HRB5.out)).trans HRB5.out)
                    have HE6 := Lib.hid ((hbl6.block _ (lt_of_block HE5.out)).trans HE5.out)
                    have HE6w := HE5
                    clear hb6 hbl6 hr6 HB5 HRB5 HE5 HST5
                    go_wp2_with fail
                    refine (clip_bytes _ _ l5 _ HB6.out).mono ?_
                    rintro e w7 ⟨rfl, a7, rfl, hs7⟩
                    have HS7 := Lib.hid hs7
                    clear hs7
                    obtain ⟨e0, e1, e2, e3, e4⟩ := five_cells HE6.out
                    obtain ⟨g0, g1, g2, g3, g4⟩ := five_free HE6.out
                    go_wp2_with fail
                    go_meet
                    case rel =>
                      refine ⟨l5, [], cnt + 1, r3.drop l5.length, a7, l5.length, none, 0, [], HFIN.out, heap_set HE6.out 3 _, hlim5, by simp, Nat.le_refl _, by simp, ?_, .inl rfl, rfl, HST6.out.keepSet eb 3 _ (by omega), grown_new' HG6.out (grown_setCell _ _ _) (by simp; omega), heap_set_other HRB6.out _ _ (by simp; omega)⟩
                      have hk : Keeps (fun k => w5.heap.size ≤ k) w6 (w6.setCell ⟨eb, 3, none⟩ (.slice a7 l5.length l5.length)) := Keeps.of_grown (grown_setCell _ _ _) fun k hk e => by have := lt_of_block HE6w.out; simp at e; omega
                      exact (HS7.out.keep hk).weaken fun k hk => ⟨by have := lt_of_block HE6w.out; omega, by have := lt_of_block HE6w.out; omega⟩
                · go_wp2_with fail
                  refine (take_any dk r3 (cnt + 1) n7 _ rfl _ HST4.out (by unfold lim; omega)).mono ?_
                  intro e w5 hp
                  unfold TakePost at hp
                  by_cases hlt : r3.length < n7
                  · rw [if_pos hlt] at hp
                    obtain ⟨rfl, rfl⟩ := hp
                    unfold raised
                    go_wp2_with fail
                    refine ⟨rfl, ?_⟩
                    rw [HEL.out]
                    simp only [Tg.contentD]
                    rw [if_pos hlt]
                    exact ⟨HG4.out, rfl⟩
                  rw [if_neg hlt] at hp
                  obtain ⟨a5, c5, rfl, hc5, hs5, hst5, hg5⟩ := hp
                  obtain ⟨l5, hl5⟩ : ∃ l, l = r3.take n7 := ⟨_, rfl⟩
                  have hll : l5.length = n7 := by rw [hl5, List.length_take]; omega
                  rw [← hl5] at hs5
                  have HCL := Lib.hid (show ∀ res, Tg.closedD (Tg.elemD d) (r3.length + 1) (cnt + 1) l5 [] = res → Tg.elemD (d + 1) cnt (x :: r) = (match res with | .error e => .error e | .ok (ps, n') => .ok (.mk cl tg true [] ps, n', r3.drop n7)) by
                    intro res hres
                    rw [HEL.out, ← hres, hl5]
                    simp only [Tg.contentD]
                    rw [if_neg hlt]
                    simp only [if_true]
                    rfl)
                  have hll3 : l5.length ≤ r3.length := by omega
                  obtain ⟨rr5, rc5, hh5, p1, p2, p3⟩ := hst5
                  obtain ⟨behind, hbe⟩ : ∃ l, l = r3.drop n7 := ⟨_, rfl⟩
                  rw [← hbe] at hh5 p1 p2 p3 HCL
                  clear hbe
                  subst hll
                  have HST5 := Lib.hid (show St w5 dk behind (cnt + 1) from ⟨rr5, rc5, hh5, p1, p2, p3⟩)
                  obtain ⟨d0, d1⟩ := St.two hh5
                  have d2 := free_of hh5 0
                  have HH5 := Lib.hid hh5
                  have HS5 := Lib.hid hs5
                  have HP3 := Lib.hid p3
                  have HP1 := Lib.hid (And.intro p1 p2)
                  have HG5 := Lib.hid (grown_trans HG4.out hg5)
                  have HRB5 := Lib.hid (blk_kept HRB4.out hg5 (by omega))
                  have HE5 := Lib.hid (blk_kept HE4.out hg5 (by omega))
                  clear hl5 hs5 hg5 hh5 p1 p2 p3 HEL HG4 HRB4 HE4 HST4 e0 e1 e2 e3 e4
                  go_wp2_with fail
                  go_loopg [] (r3.length + 1) (fun k wr => ClosedInv w dk eb cl tg d (cnt + 1) (r3.length + 1) l5 k wr)
                  case atStart =>
                    refine ⟨cnt + 1, l5, [], none, none, 0, [], rfl, by omega, by omega, by simp, heap_set_other HE5.out _ _ (by simp; omega), Row.nil _ _ _ _, by simp, rfl, ⟨a5, c5, heap_set HH5.out 0 _, hc5, by unfold lim; omega, HS5.out.keep (Keeps.of_grown (grown_setCell _ _ _) fun k hk e => by simp at e; omega)⟩, grown_trans HG5.out (grown_setCell _ _ _), heap_set_other HRB5.out _ _ (by simp; omega)⟩
                  case round =>
                    obtain ⟨n', r', acc, row, pa, pc, xs, hop, hk, hn', hacc, hE, hrow, hrok, hts, hst, hg, hrb⟩ := hrel
                    have HOP := Lib.hid hop
                    have HE := Lib.hid hE
                    have HROW := Lib.hid hrow
                    have HROK := Lib.hid hrok
                    have HTS := Lib.hid hts
                    have HS := Lib.hid hst
                    have HG := Lib.hid hg
                    have HRB := Lib.hid hrb
                    obtain ⟨ra9, rc9, hh9, s1, s2, s3⟩ := hst
                    obtain ⟨t0, t1⟩ := St.two hh9
                    have t2 := free_of hh9 0
                    have HH9 := Lib.hid hh9
                    unfold lim at s2
                    clear hop hE hrow hrok hts hg hrb hh9 s3 d0 d1 d2 HE5 HRB5
                    obtain ⟨kk, rfl⟩ : ∃ m, gk = m + 1 := ⟨gk - 1, by omega⟩
                    cases r' with
                    | nil =>
                      have HF := Lib.hid (show Tg.closedD (Tg.elemD d) (r3.length + 1) (cnt + 1) l5 [] = .ok (acc, n') by rw [← HOP.out]; simp only [Tg.closedD])
                      simp only [List.length_nil] at t0 s1 s2
                      go_wp2_with fail
                      go_meet
                      case rel =>
                        obtain ⟨a9, c9, he9, hc9, hs9⟩ := HROW.out.reads
                        injection he9 with q1 q2 q3
                        subst q1
                        subst q3
                        have hkb : Keeps (fun k => k < dk) w5 wr := fun k hk _ => (HG.out.block k (by omega) (by intro e; injection e with e; omega)).trans (HG5.out.block k (by omega) (by intro e; injection e with e; omega)).symm
                        have hks : Keeps (okE w eb) wr (wr.setCell ⟨dk, 0, none⟩ (.slice rr5 behind.length rc5)) := Keeps.of_grown (grown_setCell _ _ _) fun k hk e => by have := hk.1; simp at e; omega
                        refine ⟨[], acc, n', behind, none, 0, pa, pc, xs, ?_, heap_set_other HE.out _ _ (by simp; omega), by simp, by unfold lim; omega, by simp, hc9, .inl rfl, (hs9.weaken fun k hk => HROK.out k hk).keep hks, TreesR.keep hks _ _ (TreesR.weaken (fun k hk => hk.1) _ _ HTS.out), ?_, grown_trans HG.out (grown_setCell _ _ _), heap_set_other HRB.out _ _ (by simp; omega)⟩
                        · rw [HCL.out _ HF.out]
                        · exact ⟨rr5, rc5, heap_set HH9.out 0 _, HP1.out.1, HP1.out.2, (HP3.out.keep hkb).keep (Keeps.of_grown (grown_setCell _ _ _) fun k hk e => by simp at e; omega)⟩
                    | cons y r' =>
                      simp only [List.length_cons] at t0 s1 s2
                      go_wp2_with fail
                      have HS' := HS
                      have hE4 := cell_of HE.out 4
                      simp at hE4
                      have HEw := HE
                      obtain ⟨i0, hi, hz0, hz1, hz2⟩ := info_parts tree_info
                      have hwr : IntKind.i64.wrap (D + 1) = D + 1 := IntWalk.i64_in _ (by omega)
                      have HIH := Lib.hid (IH.out (D + 1) dk (y :: r') n' wr.drew (by have := HD.out; omega) (by omega) hn' (St.drew HS.out))
                      have HEQ := Lib.hid (show ∀ res, Tg.elemD d n' (y :: r') = res → Tg.closedD (Tg.elemD d) (r3.length + 1) (cnt + 1) l5 [] = (match res with | .error e => .error e | .ok (t, n2, r2) => Tg.closedD (Tg.elemD d) kk n2 r2 (acc ++ [t])) by
                        intro res hres
                        rw [← HOP.out, ← hres]
                        simp only [Tg.closedD]
                        rfl)
                      have HREB : Hid (some eb ≠ row) := by
                        intro e
                        have := HROK.out eb e.symm
                        exact this.2 rfl
                      have HRN : Hid (row = none ∨ row ≠ some dk) := by
                        cases hrw : row with
                        | none => exact .inl rfl
                        | some g => have := HROK.out g hrw; right; intro e; injection e with e; have := this.1; omega
                      have HFERR := Lib.hid (show ∀ k, Tg.elemD d n' (y :: r') = .error k → Tg.elemD (d + 1) cnt (x :: r) = .error k by
                        intro k hk
                        rw [HCL.out _ (HEQ.out _ hk)])
                      obtain ⟨res, hres⟩ : ∃ res, res = Tg.elemD d n' (y :: r') := ⟨_, rfl⟩
                      have HRES2 := Lib.hid hres
                      rw [← hres] at HIH
                      clear hres
                      go_region_law (first
                        | (go_simp
                           go_at_call 43
                           refine HIH.out.mono ?_
                           rintro e w6 ⟨hg6, hp⟩
                           rcases res with k | ⟨t6, n6, r6⟩
                           · simp only at hp
                             subst hp
                             refine ⟨rfl, ?_⟩
                             rw [HFERR.out k HRES2.out.symm]
                             exact ⟨grown_trans HG.out (grown_trans (grown_drew _ _) hg6), rfl⟩
                           obtain ⟨x6, rfl, ht6, hst6⟩ := hp
                           obtain ⟨va6, vc6, pa6, pc6, rfl⟩ := ht6.form
                           have HE6 := Lib.hid (heap_grown hg6 HE.out (by intro e; injection e with e; omega))
                           have hE6 := cell_of HE6.out 4
                           simp at hE6
                           have hl6 := lt_of_block HE6.out
                           have HG6 := Lib.hid (grown_trans (grown_drew wr (some dk)) hg6)
                           have HT6 := Lib.hid ht6
                           have HS6 := Lib.hid hst6
                           clear hg6 ht6 hst6)
                        | (refine step_append_row rfl _ _ 34 rfl 36 i0 _ 5 64 Tryd.underlying34 hi hz0 hz1 hz2 rfl (by decide) row _ _ acc.length 1 xs _ rfl rfl (Row.grown (Row.grown HROW.out HG6.out HRN.out) (grown_alloc _ _ none) (by cases row <;> simp)) (src_tree w6 _ _ _ _ _ rfl rfl rfl rfl rfl rfl) (by unfold maxLen; omega) (by omega) ?_
                           intro v7 w7 row7 hrow7 hg7 hr7
                           obtain ⟨a7, c7, rfl, hc7, -⟩ := hrow7.shape
                           have HE7 := Lib.hid (heap_grown hg7 (heap_alloc HE6.out _) (HREB.out))
                           have hE7 := cell_of HE7.out 4
                           simp at hE7
                           have hF7 := free_of HE7.out 4
                           have HROW7 := Lib.hid hrow7
                           have HG7 := Lib.hid hg7
                           have HR7 := Lib.hid hr7
                           clear hrow7 hg7 hr7))
                      all_goals
                        go_wp2_with fail
                        go_roundg kk
                        case measure => omega
                        case rel =>
                          have hgood := Tg.elemD_good d n' (y :: r') t6 n6 r6 HRES2.out.symm
                          have hrl : r6.length < r'.length + 1 := hgood.2.2
                          have hk' : r'.length + 1 < kk + 1 := hk
                          obtain ⟨m1, m2, m3, m4, m5, m6, m7⟩ := parts_step (t6 := t6) hdk heb1 HROW.out HROK.out HTS.out HG.out HRB.out HG6.out HT6.out HS6.out (lt_of_block HE.out) HROW7.out HG7.out HR7.out HE7.out
                          exact ⟨n6, r6, acc ++ [t6], row7, a7, c7, _, (HEQ.out _ HRES2.out.symm).symm, by omega, hgood.2.1, by simp; omega, m1, m2, m3, m4, m5, m6, m7⟩
end Go.Proofs.YthonjbaeadbhdaaDoor
