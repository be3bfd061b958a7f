/- Contract of the reader's element. -/
import Derived.Test.YthonjbaeadbhdaaDoorTagsParse0
import Derived.Test.YthonjbaeadbhdaaDoorTagsParseG
import Derived.Test.YthonjbaeadbhdaaDoorTagsElem
import Derived.Test.YthonjbaeadbhdaaDoorTagsSame
import Derived.Test.YthonjbaeadbhdaaDoorTagsInt
import Derived.Lib.AtoiAllCases
namespace Go.Proofs.YthonjbaeadbhdaaDoor
open Go.RowKit

theorem indexByte_lt : ∀ (l : List UInt8) (c : UInt8), -1 ≤ Lib.indexByte l c ∧ Lib.indexByte l c < l.length
  | [], c => by simp [Lib.indexByte]
  | b :: l, c => by
    have h := indexByte_lt l c
    simp only [Lib.indexByte, List.length_cons]
    split
    · omega
    · split
      · omega
      · omega
theorem takeWhile_all (p : UInt8 → Bool) : ∀ (l : List UInt8) (c : UInt8), c ∈ l.takeWhile p → p c = true
  | [], c, h => by simp at h
  | x :: l, c, h => by
    rw [List.takeWhile_cons] at h
    split at h
    · rename_i hx
      rcases List.mem_cons.1 h with rfl | h
      · exact hx
      · exact takeWhile_all p l c h
    · simp at h
theorem takeWhile_le (p : UInt8 → Bool) : ∀ l : List UInt8, (l.takeWhile p).length ≤ l.length
  | [] => by simp
  | x :: l => by
    rw [List.takeWhile_cons]
    split
    · have := takeWhile_le p l
      simp
      omega
    · simp
theorem trim_le (s p : List UInt8) : (Lib.trimPrefix s p).length ≤ s.length := by
  unfold Lib.trimPrefix
  split <;> simp
theorem dropWhile_le (p : UInt8 → Bool) : ∀ l : List UInt8, (l.dropWhile p).length ≤ l.length
  | [] => by simp
  | x :: l => by
    rw [List.dropWhile_cons]
    split
    · have := dropWhile_le p l
      simp
      omega
    · simp
theorem indexByte_mem : ∀ (l : List UInt8) (c : UInt8), 0 ≤ Lib.indexByte l c → c ∈ l
  | [], c, h => by simp [Lib.indexByte] at h
  | b :: l, c, h => by
    simp only [Lib.indexByte] at h
    split at h
    · rename_i hb
      have : b = c := by simpa using hb
      simp [this]
    · split at h
      · omega
      · have hg := indexByte_lt l c
        rename_i h1 h2
        have h3 : ¬ Lib.indexByte l c = -1 := by simpa using h2
        exact List.mem_cons_of_mem _ (indexByte_mem l c (by omega))
theorem hex_idx (c : UInt8) (h : Tg.among digits16 c = true) : ∃ n : Nat, Lib.indexByte digits16 c = (n : Int) ∧ n < 16 := by
  have h1 : 0 ≤ Lib.indexByte digits16 c := by simpa [Tg.among] using h
  have h2 := (indexByte_lt digits16 c).2
  have h3 : digits16.length = 16 := rfl
  obtain ⟨n, hn⟩ := Int.eq_ofNat_of_zero_le h1
  exact ⟨n, hn, by omega⟩
theorem unhex_len : ∀ (k : Nat) (l : List UInt8), l.length ≤ k → (Tg.unhex l).length = l.length / 2
  | _, [], _ => rfl
  | _, [a], _ => by simp [Tg.unhex]
  | 0, a :: b :: r, h => by simp at h
  | k + 1, a :: b :: r, h => by
    have := unhex_len k r (by simp at h; omega)
    simp only [Tg.unhex, List.length_cons, this]
    omega
theorem unhex_get : ∀ (l : List UInt8) (j : Nat) (h : 2 * j + 1 < l.length) {n1 n2 : Nat}, Lib.indexByte digits16 l[2 * j] = (n1 : Int) → Lib.indexByte digits16 l[2 * j + 1] = (n2 : Int) → (Tg.unhex l)[j]? = some (UInt8.ofNat (n1 * 16 + n2))
  | [], j, h, _, _, _, _ => by simp at h
  | [a], j, h, _, _, _, _ => by simp at h
  | a :: b :: r, 0, h, n1, n2, h1, h2 => by
    simp only [Nat.mul_zero, List.getElem_cons_zero, Nat.zero_add, List.getElem_cons_succ] at h1 h2
    simp [Tg.unhex, h1, h2]
  | a :: b :: r, j + 1, h, n1, n2, h1, h2 => by
    have e : (Tg.unhex (a :: b :: r))[j + 1]? = (Tg.unhex r)[j]? := by simp [Tg.unhex]
    rw [e]
    refine unhex_get r j (by simp at h; omega) ?_ ?_
    · rw [← h1]
      congr 1
    · rw [← h2]
      congr 1
theorem indexByte_nat (l : List UInt8) (y : Nat) (hy : y < 256) (w : World) :
    Calls Tryd.prog 49 #[.string ⟨l.toArray⟩, .int .u8 (y : Int)] w fun e w' => w = w' ∧ e = .returned (.int .i64 (Lib.indexByte l (UInt8.ofNat y))) := by
  refine indexByte_any l (UInt8.ofNat y) _ w ?_
  simp
  omega
theorem digit10 (c : UInt8) (h : Tg.among digits10 c = true) : 48 ≤ c.toNat ∧ c.toNat ≤ 57 := by
  have hm := indexByte_mem digits10 c (by simpa [Tg.among] using h)
  simp only [List.mem_cons, List.not_mem_nil, or_false] at hm
  rcases hm with rfl | rfl | rfl | rfl | rfl | rfl | rfl | rfl | rfl | rfl <;> decide
theorem atoi_pos : ∀ (l : List UInt8) (v : Int), (∀ c ∈ l, Tg.among digits10 c = true) → Lib.atoiAll l = .ok v → 0 ≤ v
  | [], v, _, h => by simp [Lib.atoiAll] at h
  | c :: r, v, hd, h => by
    have hc := digit10 c (hd c (by simp))
    have h45 : ¬ c.toNat = 45 := by omega
    simp only [Lib.atoiAll] at h
    split at h
    · cases h
    · cases h
    · split at h
      · cases h
      · split at h
        · cases h
        · injection h with h
          omega
/-- A part is appended: behind the reader of texts. -/
theorem parts_stepR {w w5 w6 w7 : World} {dk eb cl tg : Nat} {bb : Bool} {acc : List Tg.Tree} {row row7 : Option Nat} {pa : Option Addr} {pc : Nat} {xs : List Value} {t6 : Tg.Tree} {x0 x1 x2 x3 x4 : Value} {a7 : Option Addr} {c7 : Nat} {o : Obj} {r6 : List UInt8} {n6 : Nat}
    (hdk : dk < w.heap.size) (heb : w.heap.size < eb) (hrow : Row 36 5 w5 row (.slice pa acc.length pc) acc.length xs) (hrok : ∀ g, row = some g → okE w eb g) (hts : TreesR (fun k => okE w eb k ∧ row ≠ some k) w5 acc xs)
    (hg5 : w.grownBy w5 (some dk)) (hrb : w5.heap[w.heap.size]? = some (.cells #[.int .u8 0, .int .u32 0, .bool false, .slice none 0 0, .slice none 0 0] 36 (0, 0)))
    (hg6 : w5.grownBy w6 (some dk)) (ht6 : TreeR (fun k => w5.heap.size ≤ k) w6 t6 (.agg #[x0, x1, x2, x3, x4])) (hst : RS w6 dk r6 n6) (he5 : eb < w5.heap.size)
    (hrow7 : Row 36 5 w7 row7 (.slice a7 (acc.length + 1) c7) (acc.length + 1) (xs ++ [x0, x1, x2, x3, x4])) (hg7 : (w6.alloc o).grownBy w7 row) (hr7 : RowStep (w6.alloc o) row row7)
    (he7 : w7.heap[eb]? = some (.cells #[.int .u8 cl, .int .u32 tg, .bool bb, .slice none 0 0, .slice pa acc.length pc] 36 (0, 0))) :
    (w7.setCell ⟨eb, 4, none⟩ (.slice a7 (acc.length + 1) c7)).heap[eb]? = some (.cells #[.int .u8 cl, .int .u32 tg, .bool bb, .slice none 0 0, .slice a7 (acc ++ [t6]).length c7] 36 (0, 0)) ∧
    Row 36 5 (w7.setCell ⟨eb, 4, none⟩ (.slice a7 (acc.length + 1) c7)) row7 (.slice a7 (acc ++ [t6]).length c7) (acc ++ [t6]).length (xs ++ [x0, x1, x2, x3, x4]) ∧ (∀ g, row7 = some g → okE w eb g) ∧
    TreesR (fun k => okE w eb k ∧ row7 ≠ some k) (w7.setCell ⟨eb, 4, none⟩ (.slice a7 (acc.length + 1) c7)) (acc ++ [t6]) (xs ++ [x0, x1, x2, x3, x4]) ∧ RS (w7.setCell ⟨eb, 4, none⟩ (.slice a7 (acc.length + 1) c7)) dk r6 n6 ∧
    w.grownBy (w7.setCell ⟨eb, 4, none⟩ (.slice a7 (acc.length + 1) c7)) (some dk) ∧ (w7.setCell ⟨eb, 4, none⟩ (.slice a7 (acc.length + 1) c7)).heap[w.heap.size]? = some (.cells #[.int .u8 0, .int .u32 0, .bool false, .slice none 0 0, .slice none 0 0] 36 (0, 0)) := by
  have el : (acc ++ [t6]).length = acc.length + 1 := by simp
  have hs5 := hg6.size
  have hs6 : w6.heap.size < (w6.alloc o).heap.size := by simp
  have hlt := Row.row_lt hrow
  have hrne : ∀ g, row = some g → dk < g := fun g h => by have := (hrok g h).1; omega
  have hr7ok : ∀ g, row7 = some g → okE w eb g := fun g h => by
    rcases hr7 with h7 | ⟨g', h7, hg'⟩
    · exact hrok g (h7 ▸ h)
    · rw [h7] at h
      injection h with h
      subst h
      exact ⟨by have := hg5.size; omega, by omega⟩
  have hr7new : ∀ k, k < w6.heap.size → row ≠ some k → row7 ≠ some k := fun k hk hne h => by
    rcases hr7 with h7 | ⟨g', h7, hg'⟩
    · exact hne (h7 ▸ h)
    · rw [h7] at h
      injection h with h
      omega
  have hk1 : Keeps (fun k => (okE w eb k ∧ row ≠ some k) ∧ k < w5.heap.size) w5 (w7.setCell ⟨eb, 4, none⟩ (.slice a7 (acc.length + 1) c7)) := fun k hk hl => by
    rw [Below.heap_setCell _ _ _ _ hk.1.1.2, hg7.block k (by omega) (fun e => hk.1.2 e.symm), Below.heap_alloc _ _ _ (by omega), hg6.block k hl (fun e => by injection e with e; have := hk.1.1.1; omega)]
  have hk2 : Keeps (fun k => w5.heap.size ≤ k ∧ k < w6.heap.size) w6 (w7.setCell ⟨eb, 4, none⟩ (.slice a7 (acc.length + 1) c7)) := fun k hk hl => by
    rw [Below.heap_setCell _ _ _ _ (by simp; omega), hg7.block k (by omega) (fun e => by have := hlt k e.symm; omega), Below.heap_alloc _ _ _ hl]
  refine ⟨?_, ?_, hr7ok, ?_, ?_, ?_, ?_⟩
  · rw [el]
    exact heap_set he7 4 _
  · rw [el]
    refine Row.grown hrow7 (grown_setCell _ _ _) ?_
    cases h7 : row7 with
    | none => exact .inl rfl
    | some g =>
      right
      intro e
      injection e with e
      exact (hr7ok g h7).2 e
  · refine TreesR.append acc [t6] xs _ (TreesR.weaken (fun k hk => ⟨hk.1.1, hr7new k (by omega) hk.1.2⟩) _ _ (TreesR.keep hk1 _ _ (TreesR.weaken_lt (Nat.le_refl _) _ _ hts))) ?_
    simp only [TreesR]
    refine ⟨x0, x1, x2, x3, x4, [], rfl, TreeR.weaken (fun k hk => ⟨⟨by have := hg5.size; omega, by omega⟩, hr7new k hk.2 fun e => by have := hlt k e; omega⟩) _ _ (TreeR.keep hk2 _ _ (TreeR.weaken_lt (Nat.le_refl _) _ _ ht6)), rfl⟩
  · exact heap_set_other (heap_grown hg7 (heap_alloc hst o) (fun e => by have := hrne _ e.symm; omega)) _ _ (by simp; omega)
  · have h6 := grown_trans (grown_trans hg5 hg6) (grown_alloc w6 o (some dk))
    refine grown_new' ?_ (grown_setCell _ _ _) (by simp; omega)
    refine ⟨hg7.os.trans h6.os, hg7.tape.trans h6.tape, hg7.output.trans h6.output, Nat.le_trans h6.size hg7.size, fun k hk hd => (hg7.block k (Nat.lt_of_lt_of_le hk h6.size) fun e => ?_).trans (h6.block k hk hd)⟩
    have := (hrok k e.symm).1
    omega
  · rw [Below.heap_setCell _ _ _ _ (by simp; omega), hg7.block _ (by have := lt_of_block hrb; omega) (fun e => by have := (hrok _ e.symm).1; omega), Below.heap_alloc _ _ _ (by have := lt_of_block hrb; omega)]
    exact heap_grown hg6 hrb (by intro e; injection e with e; omega)

/-- The loop over the parts of an element's text. -/
def PartsInv (w : World) (rk eb cl m d cnt0 : Nat) (r0 : List UInt8) (k : Nat) (wr : World) : Prop :=
  ∃ (n' : Nat) (r' : List UInt8) (acc : List Tg.Tree) (row : Option Nat) (pa : Option Addr) (pc : Nat) (xs : List Value),
    Tg.partsP (Tg.parseP d) k n' r' acc = Tg.partsP (Tg.parseP d) (r0.length + 1) cnt0 r0 [] ∧ r'.length < k ∧ n' ≤ 1024 ∧ acc.length ≤ n' ∧ r'.length ≤ 1048576 ∧
    wr.heap[eb]? = some (.cells #[.int .u8 cl, .int .u32 m, .bool true, .slice none 0 0, .slice pa acc.length pc] 36 (0, 0)) ∧
    Row 36 5 wr row (.slice pa acc.length pc) acc.length xs ∧ (∀ g, row = some g → okE w eb g) ∧ TreesR (fun k => okE w eb k ∧ row ≠ some k) wr acc xs ∧ RS wr rk r' n' ∧ w.grownBy wr (some rk) ∧
    wr.heap[w.heap.size]? = some (.cells #[.int .u8 0, .int .u32 0, .bool false, .slice none 0 0, .slice none 0 0] 36 (0, 0))
/-- The end of a refusal. -/
theorem parse_fail0 {w X : World} {rk rb : Nat} (hX : X.heap[rb]? = some (.cells #[.int .u8 0, .int .u32 0, .bool false, .slice none 0 0, .slice none 0 0] 36 (0, 0))) (hg : w.grownBy X (some rk)) {a : Act} (h4 : a.tmps[4]? = some (.pointer (some ⟨rb, 0, none⟩))) (h5 : a.tmps[5]? = some (.bool false)) (hd : a.defers = [])
    {d cnt : Nat} {s : List UInt8} (hr : Tg.parseP d cnt s = none) :
    bodyPost Tryd.prog Tryd.f35 (ParsePost w rk (Tg.parseP d cnt s)) .ret a X := by
  rw [hr]
  obtain ⟨a0, a1, a2, a3, a4⟩ := five_cells hX
  exact bodyPost_ret (v := .tuple #[zeroT, .bool false]) (by simp [zeroT, results, Tryd.results35, go_sem, h4, h5, a0, a1, a2, a3, a4]) hd ⟨hg, _, _, _, _, _, _, _, _, _, rfl⟩
theorem parse_fail {w X : World} {rk rb : Nat} {o0 o1 o2 o3 o4 : Value} (hX : X.heap[rb]? = some (.cells #[o0, o1, o2, o3, o4] 36 (0, 0))) (hg : w.grownBy X (some rk)) (hrb : w.heap.size ≤ rb) {a : Act} (h4 : a.tmps[4]? = some (.pointer (some ⟨rb, 0, none⟩))) (h5 : a.tmps[5]? = some (.bool false)) (hd : a.defers = [])
    {d cnt : Nat} {s : List UInt8} (hr : Tg.parseP d cnt s = none) :
    bodyPost Tryd.prog Tryd.f35 (ParsePost w rk (Tg.parseP d cnt s)) .ret a (((((X.setCell ⟨rb, 0, none⟩ (.int .u8 0)).setCell ⟨rb, 1, none⟩ (.int .u32 0)).setCell ⟨rb, 2, none⟩ (.bool false)).setCell ⟨rb, 3, none⟩ (.slice none 0 0)).setCell ⟨rb, 4, none⟩ (.slice none 0 0)) := by
  obtain ⟨W, hW, z0, zk, zs, zo, zt, zu⟩ := five_stores X rb hX (.int .u8 0) (.int .u32 0) (.bool false) (.slice none 0 0) (.slice none 0 0)
  rw [← hW]
  exact parse_fail0 z0 (grown_new' hg (show X.grownBy W (some rb) from ⟨zo, zt, zu, by omega, fun k hk hne => zk k (fun e => hne (by rw [e]))⟩) hrb) h4 h5 hd hr

theorem parse_failA {w X : World} {rk rb : Nat} {o0 o1 o2 o3 o4 : Value} (o : Obj) (hX : X.heap[rb]? = some (.cells #[o0, o1, o2, o3, o4] 36 (0, 0))) (hg : w.grownBy X (some rk)) (hrb : w.heap.size ≤ rb) {a : Act} (h4 : a.tmps[4]? = some (.pointer (some ⟨rb, 0, none⟩))) (h5 : a.tmps[5]? = some (.bool false)) (hd : a.defers = [])
    {d cnt : Nat} {s : List UInt8} (hr : Tg.parseP d cnt s = none) :
    bodyPost Tryd.prog Tryd.f35 (ParsePost w rk (Tg.parseP d cnt s)) .ret a ((((((X.setCell ⟨rb, 0, none⟩ (.int .u8 0)).setCell ⟨rb, 1, none⟩ (.int .u32 0)).setCell ⟨rb, 2, none⟩ (.bool false)).setCell ⟨rb, 3, none⟩ (.slice none 0 0)).setCell ⟨rb, 4, none⟩ (.slice none 0 0)).alloc o) := by
  obtain ⟨W, hW, z0, zk, zs, zo, zt, zu⟩ := five_stores X rb hX (.int .u8 0) (.int .u32 0) (.bool false) (.slice none 0 0) (.slice none 0 0)
  rw [← hW]
  exact parse_fail0 (heap_alloc z0 o) (grown_trans (grown_new' hg (show X.grownBy W (some rb) from ⟨zo, zt, zu, by omega, fun k hk hne => zk k (fun e => hne (by rw [e]))⟩) hrb) (grown_alloc _ _ _)) h4 h5 hd hr

/-- The world at a refusal ahead of all else. -/
theorem parse_first (w : World) (rk : Nat) (v : Value) : ((w.setCell ⟨rk, 1, none⟩ v).alloc (.cells #[.int .u8 0, .int .u32 0, .bool false, .slice none 0 0, .slice none 0 0] 36)).heap[w.heap.size]? = some (.cells #[.int .u8 0, .int .u32 0, .bool false, .slice none 0 0, .slice none 0 0] 36 (0, 0)) ∧
    w.grownBy ((w.setCell ⟨rk, 1, none⟩ v).alloc (.cells #[.int .u8 0, .int .u32 0, .bool false, .slice none 0 0, .slice none 0 0] 36)) (some rk) := by
  refine ⟨alloc_set_new w _ _ _, grown_trans (grown_setCell _ _ _) (grown_alloc _ _ _)⟩

set_option maxRecDepth 100000 in
set_option maxHeartbeats 2000000 in
theorem parse_any (d : Nat) : ∀ (D : Int) (rk : Nat) (s : List UInt8) (cnt : Nat) (w : World), D = 17 - d → d ≤ 16 → cnt ≤ 1024 → s.length ≤ 1048576 → RS w rk s cnt → Env w →
    rk ≠ 0 → rk ≠ 2 → rk ≠ 3 →
    Calls Tryd.prog 35 #[.pointer (some ⟨rk, 0, none⟩), .int .i64 D] w (ParsePost w rk (Tg.parseP d cnt s)) := by
  induction d with
  | zero =>
    intro D rk s cnt w hD hd hcnt hs h henv n1 n2 n3
    have hD17 : D = 17 := by omega
    subst hD17
    clear hD
    have HH := Lib.hid h
    have c0 := cell_of h 0
    have c1 := cell_of h 1
    have f1 := free_of h 1
    have hrk := lt_of_block h
    simp at c0 c1
    clear h henv
    have HF := Lib.hid (show Tg.parseP 0 cnt s = none from rfl)
    go_enter Tryd.func35, Tryd.ntmps35
    go_wp2_with fail
    all_goals exact parse_fail0 (parse_first _ _ _).1 (parse_first _ _ _).2 rfl rfl rfl HF.out
  | succ d ih =>
    intro D rk s cnt w hD hd hcnt hs h henv n1 n2 n3
    have HH := Lib.hid h
    have HE := Lib.hid henv
    have IH := Lib.hid ih
    have HD := Lib.hid hD
    have hD1 : D ≤ 16 := by omega
    have hD0 : 1 ≤ D := by omega
    have hrk := lt_of_block h
    have c0 := cell_of h 0
    have c1 := cell_of h 1
    have f1 := free_of h 1
    simp at c0 c1
    clear h henv ih hD
    by_cases hfull : 1024 ≤ cnt
    · have HF := Lib.hid (show Tg.parseP (d + 1) cnt s = none by simp [Tg.parseP, hfull])
      go_enter Tryd.func35, Tryd.ntmps35
      go_wp2_with fail
      all_goals exact parse_fail0 (parse_first _ _ _).1 (parse_first _ _ _).2 rfl rfl rfl HF.out
    cases s with
    | nil =>
      have HF := Lib.hid (show Tg.parseP (d + 1) cnt [] = none by simp [Tg.parseP])
      go_enter Tryd.func35, Tryd.ntmps35
      go_wp2_with fail
      all_goals exact parse_fail0 (parse_first _ _ _).1 (parse_first _ _ _).2 rfl rfl rfl HF.out
    | cons x r =>
      have hsz : (⟨(x :: r).toArray⟩ : ByteArray).size = r.length + 1 := by simp [ByteArray.size]
      go_enter Tryd.func35, Tryd.ntmps35
      go_wp2_with fail
      have hq := indexByte_lt letters x
      refine (indexByte_any letters x _ _ rfl).mono ?_
      rintro e w1 ⟨hw1, rfl⟩
      have hA := parse_first w rk (.int .i64 ((cnt : Int) + 1))
      have hRA : RS w1 rk (x :: r) (cnt + 1) := by
        rw [← hw1]
        exact heap_alloc (by simpa using heap_set HH.out 1 (.int .i64 ((cnt : Int) + 1))) _
      rw [hw1] at hA
      clear hw1
      obtain ⟨hAz, hAg⟩ := hA
      have HRA := Lib.hid hRA
      have HAZ := Lib.hid hAz
      have HAG := Lib.hid hAg
      have HEA := Lib.hid (HE.out.keep hAg (by simpa using n1) (by simpa using n2) (by simpa using n3))
      have c0 := cell_of hRA 0
      have f0 := free_of hRA 0
      simp at c0
      have hx1 : (⟨(x :: r).toArray⟩ : ByteArray).extract 1 (r.length + 1) = ⟨r.toArray⟩ := by
        rw [ext_str]
        simp
      have hx10 : (⟨#[48, 49, 50, 51, 52, 53, 54, 55, 56, 57, 97, 98, 99, 100, 101, 102]⟩ : ByteArray).extract 0 10 = ⟨digits10.toArray⟩ := by rfl
      have HQ := Lib.hid (show ∃ q, q = Lib.indexByte letters x from ⟨_, rfl⟩)
      obtain ⟨q, hq0⟩ := HQ.out
      rw [← hq0] at hq
      rw [← hq0]
      have HQ0 := Lib.hid hq0
      clear hRA hAz hAg hq0 HQ HH f1 c1
      go_wp2_with fail
      have hRB : RS (w1.setCell ⟨rk, 0, none⟩ (.string ⟨r.toArray⟩)) rk r (cnt + 1) := by simpa [RS] using heap_set HRA.out 0 (.string ⟨r.toArray⟩)
      refine (run_any digits10 r rk (cnt + 1) _ hRB (by unfold lim; simp at hs; omega)).mono ?_
      rintro e w2 ⟨rfl, hg2, hR2⟩
      have HG2 := Lib.hid (grown_trans HAG.out (grown_trans (grown_setCell _ _ _) hg2))
      have HZ2 := Lib.hid (heap_grown hg2 (heap_set_other HAZ.out ⟨rk, 0, none⟩ (.string ⟨r.toArray⟩) (by simp; omega)) (by simp; omega))
      have HE2 := Lib.hid (HE.out.keep HG2.out (by simpa using n1) (by simpa using n2) (by simpa using n3))
      have HR2 := Lib.hid hR2
      have HDG := Lib.hid (show ∀ c ∈ r.takeWhile (Tg.among digits10), Tg.among digits10 c = true from fun c hc => takeWhile_all _ _ c hc)
      have hln : (r.takeWhile (Tg.among digits10)).length ≤ 1048576 := by
        have := takeWhile_le (Tg.among digits10) r
        simp at hs
        omega
      have hlr : (r.dropWhile (Tg.among digits10)).length ≤ 1048576 := by
        have := dropWhile_le (Tg.among digits10) r
        simp at hs
        omega
      have HP := Lib.hid (show Tg.parseP (d + 1) cnt (x :: r) = if q < 0 then none else match Tg.numP (r.takeWhile (Tg.among digits10)) with | none => none | some m => Tg.bodyP (Tg.parseP d) q.toNat m (cnt + 1) (r.dropWhile (Tg.among digits10)) by
        rw [Tg.parseP, if_neg hfull, HQ0.out]
        rfl)
      obtain ⟨num, hnum⟩ : ∃ l, l = r.takeWhile (Tg.among digits10) := ⟨_, rfl⟩
      obtain ⟨r2, hr2⟩ : ∃ l, l = r.dropWhile (Tg.among digits10) := ⟨_, rfl⟩
      rw [← hnum] at HP HDG hln
      rw [← hr2] at HP HR2 hlr
      rw [← hnum]
      clear hRB hg2 hR2 HAG HAZ HEA HRA c0 f0 hnum hr2 hx1
      go_wp2_with fail
      refine (atoi_any num w2 HE2.out (by unfold lim; omega)).mono ?_
      rintro e w3 ⟨hb3, hp⟩
      have HG3 := Lib.hid (grown_trans HG2.out (grown_below hb3 _))
      have HZ3 := Lib.hid ((hb3.block _ (lt_of_block HZ2.out)).trans HZ2.out)
      have HE3 := Lib.hid (HE2.out.below hb3)
      have HR3 := Lib.hid (show RS w3 rk r2 (cnt + 1) from (hb3.block _ (lt_of_block HR2.out)).trans HR2.out)
      obtain ⟨z0, z1, z2, z3, z4⟩ := five_cells HZ3.out
      obtain ⟨y0, y1, y2, y3, y4⟩ := five_free HZ3.out
      clear hb3 HG2 HZ2 HE2 HR2
      by_cases hq0 : q < 0
      · have HF := Lib.hid (show Tg.parseP (d + 1) cnt (x :: r) = none by rw [HP.out, if_pos hq0])
        rcases hres : Lib.atoiAll num with v | _ | _
        · rw [hres] at hp
          obtain rfl := hp
          go_wp2_with fail
          exact parse_fail HZ3.out HG3.out (Nat.le_refl _) rfl rfl rfl HF.out
        · rw [hres] at hp
          obtain ⟨m, T, p, rfl⟩ := hp
          go_wp2_with fail
          exact parse_fail HZ3.out HG3.out (Nat.le_refl _) rfl rfl rfl HF.out
        · rw [hres] at hp
          obtain ⟨m, T, p, rfl⟩ := hp
          go_wp2_with fail
          exact parse_fail HZ3.out HG3.out (Nat.le_refl _) rfl rfl rfl HF.out
      by_cases hok : ∀ v, Lib.atoiAll num ≠ .ok v
      · have HF := Lib.hid (show Tg.parseP (d + 1) cnt (x :: r) = none by
          rw [HP.out, if_neg (by omega)]
          rcases hres : Lib.atoiAll num with v | _ | _
          · exact absurd hres (hok v)
          · simp only [Tg.numP, hres]
          · simp only [Tg.numP, hres])
        have hp' : ∃ m T p, e = .returned (.tuple #[.int .i64 m, .iface T p]) := by
          rcases hres : Lib.atoiAll num with v | _ | _
          · exact absurd hres (hok v)
          · rw [hres] at hp
            exact hp
          · rw [hres] at hp
            exact hp
        obtain ⟨m, T, p, rfl⟩ := hp'
        clear hok hp
        go_wp2_with fail
        exact parse_fail HZ3.out HG3.out (Nat.le_refl _) rfl rfl rfl HF.out
      · obtain ⟨v, hres⟩ : ∃ v, Lib.atoiAll num = .ok v := by
          rcases hres : Lib.atoiAll num with v | _ | _
          · exact ⟨v, rfl⟩
          · exact absurd (fun v h => by rw [hres] at h; cases h) hok
          · exact absurd (fun v h => by rw [hres] at h; cases h) hok
        clear hok
        rw [hres] at hp
        obtain rfl := hp
        have hv := Lib.atoiAll_bounds hres
        have hvp := atoi_pos num v HDG.out hres
        have HNP := Lib.hid (show Tg.numP num = if Lib.itoa v = num ∧ v ≤ 2097151 then (if 0 ≤ v then some v.toNat else none) else none by simp only [Tg.numP, hres])
        clear hres
        go_wp2_with fail
        refine (itoa_any v w3 (by omega) (by omega) HE3.out.1).mono ?_
        rintro e w4 ⟨rfl, hb4⟩
        have HG4 := Lib.hid (grown_trans HG3.out (grown_below hb4 _))
        have HZ4 := Lib.hid ((hb4.block _ (lt_of_block HZ3.out)).trans HZ3.out)
        have HE4 := Lib.hid (HE3.out.below hb4)
        have HR4 := Lib.hid (show RS w4 rk r2 (cnt + 1) from (hb4.block _ (lt_of_block HR3.out)).trans HR3.out)
        obtain ⟨z0, z1, z2, z3, z4⟩ := five_cells HZ4.out
        obtain ⟨y0, y1, y2, y3, y4⟩ := five_free HZ4.out
        clear hb4 HG3 HZ3 HE3 HR3
        have hbt := bytes_toList
        by_cases hit : Lib.itoa v = num
        · by_cases hmx : v ≤ 2097151
          · have HM := Lib.hid (show Tg.numP num = some v.toNat by rw [HNP.out, if_pos ⟨hit, hmx⟩, if_pos hvp])
            obtain ⟨m, rfl⟩ := Int.eq_ofNat_of_zero_le hvp
            have hq00 : 0 ≤ q := by omega
            obtain ⟨cl, rfl⟩ := Int.eq_ofNat_of_zero_le hq00
            have hcl3 : cl ≤ 3 := by
              have h1 := hq.2
              have h2 : letters.length = 4 := rfl
              omega
            have HB := Lib.hid (show Tg.parseP (d + 1) cnt (x :: r) = Tg.bodyP (Tg.parseP d) cl m (cnt + 1) r2 by
              rw [HP.out, if_neg (by omega), HM.out]
              rfl)
            have hm8 : (cl : Int) % 256 = cl := by omega
            rw [hit]
            clear hit hq0 hq00 HP HM HNP HQ0
            go_wp2_with fail
            obtain ⟨eb, heb⟩ : ∃ e, e = w4.heap.size := ⟨_, rfl⟩
            have heb1 : w.heap.size < eb := by have := lt_of_block HZ4.out; omega
            obtain ⟨w5, hw5⟩ : ∃ w5, w5 = w4.alloc (.cells #[.int .u8 cl, .int .u32 m, .bool false, .slice none 0 0, .slice none 0 0] 36) := ⟨_, rfl⟩
            have HX5 := Lib.hid (show w5.heap[eb]? = some (.cells #[.int .u8 cl, .int .u32 m, .bool false, .slice none 0 0, .slice none 0 0] 36 (0, 0)) by rw [hw5, heb]; exact alloc_new _ _)
            have HG5 := Lib.hid (show w.grownBy w5 (some rk) by rw [hw5]; exact grown_trans HG4.out (grown_alloc _ _ _))
            have HZ5 := Lib.hid (show w5.heap[w.heap.size]? = some (.cells #[.int .u8 0, .int .u32 0, .bool false, .slice none 0 0, .slice none 0 0] 36 (0, 0)) by rw [hw5]; exact heap_alloc HZ4.out _)
            have HE5 := Lib.hid (show Env w5 by rw [hw5]; exact HE4.out.below (below_new _))
            have HR5 := Lib.hid (show RS w5 rk r2 (cnt + 1) by rw [hw5]; exact heap_alloc HR4.out _)
            rw [← hw5, ← heb]
            clear hw5 heb HG4 HZ4 HE4 HR4 z0 z1 z2 z3 z4 y0 y1 y2 y3 y4
            refine (skip_any 61 r2 rk (cnt + 1) w5 HR5.out).mono ?_
            rintro e w6 ⟨rfl, hg6, hR6⟩
            have HG6 := Lib.hid (grown_trans HG5.out hg6)
            have HZ6 := Lib.hid (blk_kept HZ5.out hg6 (by omega))
            have HX6 := Lib.hid (blk_kept HX5.out hg6 (by omega))
            have HE6 := Lib.hid (HE5.out.keep hg6 (by simpa using n1) (by simpa using n2) (by simpa using n3))
            have HR6 := Lib.hid hR6
            obtain ⟨z0, z1, z2, z3, z4⟩ := five_cells HZ6.out
            obtain ⟨y0, y1, y2, y3, y4⟩ := five_free HZ6.out
            obtain ⟨x0, x1, x2, x3, x4⟩ := five_cells HX6.out
            obtain ⟨v0, v1, v2, v3, v4⟩ := five_free HX6.out
            have heb6 := lt_of_block HX6.out
            clear hg6 hR6 HG5 HZ5 HX5 HE5 HR5
            cases hsk : Lib.hasPrefix r2 [61]
            · have HSK := Lib.hid hsk
              have htr : Lib.trimPrefix r2 [61] = r2 := by simp [Lib.trimPrefix, hsk]
              rw [htr] at HR6
              clear hsk htr
              go_wp2_with fail
              obtain ⟨w7, hw7⟩ : ∃ w7, w7 = w6.setCell ⟨eb, 2, none⟩ (.bool true) := ⟨_, rfl⟩
              have HX7 := Lib.hid (show w7.heap[eb]? = some (.cells #[.int .u8 cl, .int .u32 m, .bool true, .slice none 0 0, .slice none 0 0] 36 (0, 0)) by rw [hw7]; simpa using heap_set HX6.out 2 (.bool true))
              have HG7 := Lib.hid (show w.grownBy w7 (some rk) by rw [hw7]; exact grown_new' HG6.out (grown_setCell _ _ _) (by simp; omega))
              have HZ7 := Lib.hid (show w7.heap[w.heap.size]? = some (.cells #[.int .u8 0, .int .u32 0, .bool false, .slice none 0 0, .slice none 0 0] 36 (0, 0)) by rw [hw7]; exact heap_set_other HZ6.out _ _ (by simp; omega))
              have HR7 := Lib.hid (show RS w7 rk r2 (cnt + 1) by rw [hw7]; exact heap_set_other HR6.out _ _ (by simp; omega))
              rw [← hw7]
              clear hw7 HG6 HZ6 HX6 HE6 HR6 x0 x1 x2 x3 x4 v0 v1 v2 v3 v4 z0 z1 z2 z3 z4 y0 y1 y2 y3 y4
              refine (skip_any 40 r2 rk (cnt + 1) w7 HR7.out).mono ?_
              rintro e w8 ⟨rfl, hg8, hR8⟩
              have HG8 := Lib.hid (grown_trans HG7.out hg8)
              have HZ8 := Lib.hid (blk_kept HZ7.out hg8 (by omega))
              have HX8 := Lib.hid (blk_kept HX7.out hg8 (by omega))
              have HR8 := Lib.hid hR8
              clear hg8 hR8 HG7 HZ7 HX7 HR7
              cases hsk : Lib.hasPrefix r2 [40]
              · have HF := Lib.hid (show Tg.parseP (d + 1) cnt (x :: r) = none by rw [HB.out, Tg.bodyP, if_neg (by rw [HSK.out]; simp), if_neg (by rw [hsk]; simp)])
                obtain ⟨z0, z1, z2, z3, z4⟩ := five_cells HZ8.out
                obtain ⟨y0, y1, y2, y3, y4⟩ := five_free HZ8.out
                clear hsk
                go_wp2_with fail
                exact parse_fail HZ8.out HG8.out (Nat.le_refl _) rfl rfl rfl HF.out
              · obtain ⟨r3, hr3⟩ : ∃ l, l = Lib.trimPrefix r2 [40] := ⟨_, rfl⟩
                have HB2 := Lib.hid (show ∀ res, Tg.partsP (Tg.parseP d) (r3.length + 1) (cnt + 1) r3 [] = res → Tg.parseP (d + 1) cnt (x :: r) = (match res with | none => none | some (ps, n', r') => some (.mk cl m true [] ps, n', r')) by
                  intro res hres
                  rw [HB.out, Tg.bodyP, if_neg (by rw [HSK.out]; simp), if_pos hsk, ← hr3, hres]
                  cases res <;> rfl)
                have hl3 : r3.length ≤ 1048576 := by rw [hr3]; exact Nat.le_trans (trim_le _ _) hlr
                rw [← hr3] at HR8
                clear hr3 hsk HB HSK
                go_wp2_with fail
                go_loopg [] (r3.length + 1) (fun k wr => PartsInv w rk eb cl m d (cnt + 1) r3 k wr)
                case atStart => exact ⟨cnt + 1, r3, [], none, none, 0, [], rfl, by omega, by omega, by simp, hl3, HX8.out, Row.nil _ _ _ _, by simp, rfl, HR8.out, HG8.out, HZ8.out⟩
                case round =>
                  obtain ⟨n', r', acc, row, pa, pc, xs, hop, hk, hn', hacc, hrl, hE, hrow, hrok, hts, hRS, hg, hrb⟩ := hrel
                  have HOP := Lib.hid hop
                  have HE9 := Lib.hid hE
                  have HROW := Lib.hid hrow
                  have HROK := Lib.hid hrok
                  have HTS := Lib.hid hts
                  have HS := Lib.hid hRS
                  have HG := Lib.hid hg
                  have HRB := Lib.hid hrb
                  obtain ⟨kk, rfl⟩ : ∃ m, gk = m + 1 := ⟨gk - 1, by omega⟩
                  clear hop hE hrow hrok hts hRS hg hrb HX8 HG8 HZ8 HR8
                  go_wp2_with fail
                  refine (skip_any 41 r' rk n' wr HS.out).mono ?_
                  rintro e w5 ⟨rfl, hg5, hR5⟩
                  have HG5 := Lib.hid (grown_trans HG.out hg5)
                  have HE5 := Lib.hid (blk_kept HE9.out hg5 (by omega))
                  have HRB5 := Lib.hid (blk_kept HRB.out hg5 (by omega))
                  have HROW5 := Lib.hid (HROW.out.grown hg5 (by cases hrw : row with | none => exact .inl rfl | some g => have := HROK.out g hrw; right; intro e; injection e with e; have := this.1; omega))
                  have HTS5 := Lib.hid (TreesR.keep (Keeps.of_grown hg5 fun k hk e => by injection e with e; have := hk.1.1; omega) _ _ HTS.out)
                  have HR5 := Lib.hid hR5
                  obtain ⟨x0, x1, x2, x3, x4⟩ := five_cells HE5.out
                  obtain ⟨v0, v1, v2, v3, v4⟩ := five_free HE5.out
                  have heb5 := lt_of_block HE5.out
                  clear hg5 hR5 HG HE9 HRB HROW HTS HS
                  cases hpf : Lib.hasPrefix r' [41]
                  · have HPF := Lib.hid hpf
                    have htr : Lib.trimPrefix r' [41] = r' := by simp [Lib.trimPrefix, hpf]
                    rw [htr] at HR5
                    clear hpf htr
                    go_upto_region 24 with (fail)
                    go_cut [138] (fun v w' => ∃ (b : Bool) (s' : List UInt8), v = .bool b ∧ (b = true → Tg.parseP (d + 1) cnt (x :: r) = none) ∧ (b = false → Hid (∀ res, Tg.parseP d n' s' = res → Tg.partsP (Tg.parseP d) (r3.length + 1) (cnt + 1) r3 [] = (match res with | none => none | some (t, n2, r2) => Tg.partsP (Tg.parseP d) kk n2 r2 (acc ++ [t])))) ∧ s'.length ≤ r'.length ∧ Hid (RS w' rk s' n') ∧ Hid (w5.grownBy w' (some rk)))
                    case first =>
                      by_cases ha : acc = []
                      · have ha0 : ¬ 0 < (acc.length : Int) := by rw [ha]; simp
                        have HEQ := Lib.hid (show ∀ res, Tg.parseP d n' r' = res → Tg.partsP (Tg.parseP d) (r3.length + 1) (cnt + 1) r3 [] = (match res with | none => none | some (t, n2, r2) => Tg.partsP (Tg.parseP d) kk n2 r2 (acc ++ [t])) by
                          intro res hres
                          rw [← HOP.out, Tg.partsP, if_neg (by rw [HPF.out]; simp), if_neg (fun h => h.1 ha), if_pos ha, hres]
                          cases res <;> rfl)
                        clear ha
                        go_wp2_with fail
                        go_meet
                        case rel => exact ⟨false, r', rfl, by simp, fun _ => HEQ, Nat.le_refl _, HR5, grown_refl _ _⟩
                      · have ha1 : 0 < (acc.length : Int) := by
                          have := List.length_pos_iff.2 ha
                          omega
                        go_wp2_with fail
                        refine (skip_any 32 r' rk n' w5 HR5.out).mono ?_
                        rintro e w6' ⟨rfl, hg6, hR6⟩
                        cases hsp : Lib.hasPrefix r' [32]
                        · have HF := Lib.hid (show Tg.parseP (d + 1) cnt (x :: r) = none by
                            rw [HB2.out _ HOP.out.symm, Tg.partsP, if_neg (by rw [HPF.out]; simp), if_pos ⟨ha, hsp⟩])
                          have HR6 := Lib.hid hR6
                          have HG6 := Lib.hid hg6
                          clear ha hsp hg6 hR6
                          go_wp2_with fail
                          go_meet
                          case rel => exact ⟨true, _, rfl, fun _ => HF.out, by simp, trim_le' _ _, HR6, HG6⟩
                        · have HEQ := Lib.hid (show ∀ res, Tg.parseP d n' (Lib.trimPrefix r' [32]) = res → Tg.partsP (Tg.parseP d) (r3.length + 1) (cnt + 1) r3 [] = (match res with | none => none | some (t, n2, r2) => Tg.partsP (Tg.parseP d) kk n2 r2 (acc ++ [t])) by
                            intro res hres
                            rw [← HOP.out, Tg.partsP, if_neg (by rw [HPF.out]; simp), if_neg (fun h => by rw [hsp] at h; simp at h), if_neg ha, hres]
                            cases res <;> rfl)
                          have HR6 := Lib.hid hR6
                          have HG6 := Lib.hid hg6
                          clear ha hsp hg6 hR6
                          go_wp2_with fail
                          go_meet
                          case rel => exact ⟨false, _, rfl, by simp, fun _ => HEQ, trim_le' _ _, HR6, HG6⟩
                    case rest =>
                      obtain ⟨b, s', rfl, hbt', hbf, hs', hRc, hgc⟩ := hcut
                      have HZc := Lib.hid (blk_kept HRB5.out hgc.out (by omega))
                      have HGc := Lib.hid (grown_trans HG5.out hgc.out)
                      obtain ⟨z0, z1, z2, z3, z4⟩ := five_cells HZc.out
                      obtain ⟨y0, y1, y2, y3, y4⟩ := five_free HZc.out
                      cases b
                      · have HEQ := Lib.hid (hbf rfl).out
                        clear hbt' hbf
                        have HEc := Lib.hid (blk_kept HE5.out hgc.out (by omega))
                        have HROWc := Lib.hid (HROW5.out.grown hgc.out (by cases hrw : row with | none => exact .inl rfl | some g => have := HROK.out g hrw; right; intro e; injection e with e; have := this.1; omega))
                        have HTSc := Lib.hid (TreesR.keep (Keeps.of_grown hgc.out fun k hk e => by injection e with e; have := hk.1.1; omega) _ _ HTS5.out)
                        have HNV := Lib.hid (HE.out.keep HGc.out (by simpa using n1) (by simpa using n2) (by simpa using n3))
                        obtain ⟨x0, x1, x2, x3, x4⟩ := five_cells HEc.out
                        obtain ⟨v0, v1, v2, v3, v4⟩ := five_free HEc.out
                        have hebc := lt_of_block HEc.out
                        obtain ⟨res, hres⟩ : ∃ res, res = Tg.parseP d n' s' := ⟨_, rfl⟩
                        go_wp2_with fail
                        refine (IH.out (D + 1) rk s' n' wc (by have := HD.out; omega) (by omega) hn' (by omega) hRc.out HNV.out n1 n2 n3).mono ?_
                        rintro e w6' ⟨hg6, hp⟩
                        rw [← hres] at hp
                        have HRES := Lib.hid hres
                        clear hres
                        have HG6 := Lib.hid (grown_trans HGc.out hg6)
                        have HZ6 := Lib.hid (blk_kept HZc.out hg6 (by omega))
                        have HE6' := Lib.hid (blk_kept HEc.out hg6 (by omega))
                        obtain ⟨z0, z1, z2, z3, z4⟩ := five_cells HZ6.out
                        obtain ⟨y0, y1, y2, y3, y4⟩ := five_free HZ6.out
                        obtain ⟨x0, x1, x2, x3, x4⟩ := five_cells HE6'.out
                        obtain ⟨v0, v1, v2, v3, v4⟩ := five_free HE6'.out
                        have heb6' := lt_of_block HE6'.out
                        have hzb6' := lt_of_block HZ6.out
                        have HGE := Lib.hid hg6
                        clear hg6
                        cases res with
                        | none =>
                          obtain ⟨c6, tg6, b6, va6, vn6, vc6, pa6, pn6, pc6, rfl⟩ := hp
                          have HF := Lib.hid (show Tg.parseP (d + 1) cnt (x :: r) = none by rw [HB2.out _ (HEQ.out _ HRES.out.symm)])
                          go_wp2_with fail
                          exact parse_failA _ HZ6.out HG6.out (Nat.le_refl _) rfl rfl rfl HF.out
                        | some q =>
                          obtain ⟨t6, n6, r6⟩ := q
                          obtain ⟨x6, rfl, ht6, hrs6⟩ := hp
                          obtain ⟨va6, vc6, pa6, pc6, rfl⟩ := ht6.form
                          have HT6 := Lib.hid ht6
                          have HS6 := Lib.hid hrs6
                          obtain ⟨i0, hi, hz0, hz1, hz2⟩ := info_parts tree_info
                          clear ht6 hrs6
                          have HRN : Hid (row = none ∨ row ≠ some rk) := by
                            cases hrw : row with
                            | none => exact .inl rfl
                            | some g => have := HROK.out g hrw; right; intro e; injection e with e; have := this.1; omega
                          have HREB : Hid (some eb ≠ row) := by
                            intro e
                            have := HROK.out eb e.symm
                            exact this.2 rfl
                          go_wp2_with (at_builtin; refine Stop.mk ?_)
                          obtain ⟨w6, hw6⟩ : ∃ w6, w6 = w6'.alloc (.cells #[.int .u8 t6.cls, .int .u32 t6.tag, .bool t6.built, .slice va6 t6.val.length vc6, .slice pa6 t6.parts.length pc6] 36) := ⟨_, rfl⟩
                          have HGE6 := Lib.hid (show wc.grownBy w6 (some rk) by rw [hw6]; exact grown_trans HGE.out (grown_alloc _ _ _))
                          have HT66 := Lib.hid (show TreeR (fun k => wc.heap.size ≤ k) w6 t6 (.agg #[.int .u8 t6.cls, .int .u32 t6.tag, .bool t6.built, .slice va6 t6.val.length vc6, .slice pa6 t6.parts.length pc6]) by rw [hw6]; exact TreeR.keep (Keeps.of_grown (grown_alloc _ _ none) fun _ _ => by simp) _ _ HT6.out)
                          have HS66 := Lib.hid (show RS w6 rk r6 n6 by rw [hw6]; exact heap_alloc HS6.out _)
                          have HE66 := Lib.hid (show w6.heap[eb]? = some (.cells #[.int .u8 cl, .int .u32 m, .bool true, .slice none 0 0, .slice pa acc.length pc] 36 (0, 0)) by rw [hw6]; exact heap_alloc HE6'.out _)
                          have hs6z : w6'.heap.size + 1 = w6.heap.size := by rw [hw6]; simp
                          have HSZ := Lib.hid hs6z
                          rw [← hw6]
                          clear hw6 HT6 HS6 HGE hs6z
                          refine Stop.of (wpList_append_row rfl _ _ 34 rfl 36 i0 _ 5 64 Tryd.underlying34 hi hz0 hz1 hz2 rfl (by decide) row _ _ acc.length 1 xs _ rfl rfl (Row.grown (Row.grown HROWc.out HGE6.out HRN.out) (grown_alloc _ _ none) (by cases row <;> simp)) (src_tree w6 _ _ _ _ _ rfl rfl rfl rfl rfl HSZ.out) (by unfold maxLen; omega) (by omega) ?_)
                          intro v7 w7 row7 hrow7 hg7 hr7
                          obtain ⟨a7, c7, rfl, hc7, -⟩ := hrow7.shape
                          have HE7 := Lib.hid (heap_grown hg7 (heap_alloc HE66.out _) (HREB.out))
                          have hE7 := cell_of HE7.out 4
                          simp at hE7
                          have hF7 := free_of HE7.out 4
                          have HROW7 := Lib.hid hrow7
                          have HG7 := Lib.hid hg7
                          have HR7 := Lib.hid hr7
                          clear hrow7 hg7 hr7
                          go_wp2_with fail
                          go_roundg kk
                          case measure => omega
                          case rel =>
                            have hgood := parseP_good d n' s' t6 n6 r6 HRES.out.symm
                            obtain ⟨m1, m2, m3, m4, m5, m6, m7⟩ := parts_stepR (t6 := t6) hrk heb1 HROWc.out HROK.out HTSc.out HGc.out HZc.out HGE6.out HT66.out HS66.out hebc HROW7.out HG7.out HR7.out HE7.out
                            exact ⟨n6, r6, acc ++ [t6], row7, a7, c7, _, (HEQ.out _ HRES.out.symm).symm, by omega, hgood.2.1, by simp; omega, by omega, m1, m2, m3, m4, m5, m6, m7⟩
                      · have HF := Lib.hid (hbt' rfl)
                        clear hbt' hbf
                        go_wp2_with fail
                        exact parse_fail HZc.out HGc.out (Nat.le_refl _) rfl rfl rfl HF.out
                  · have HF := Lib.hid (show Tg.parseP (d + 1) cnt (x :: r) = some (.mk cl m true [] acc, n', Lib.trimPrefix r' [41]) by
                      rw [HB2.out _ HOP.out.symm, Tg.partsP, if_pos hpf])
                    clear hpf
                    obtain ⟨a9, c9, he9, hc9, hs9⟩ := HROW5.out.reads
                    injection he9 with q1 q2 q3
                    subst q1
                    subst q3
                    go_wp2_with fail
                    refine (clip_trees (fun _ => True) _ acc.length pc _ hc9 (by unfold lim; omega)).mono ?_
                    rintro e w6' ⟨hw6, rfl⟩
                    have hw6' := hw6.symm
                    subst hw6'
                    obtain ⟨z0, z1, z2, z3, z4⟩ := five_cells HRB5.out
                    obtain ⟨y0, y1, y2, y3, y4⟩ := five_free HRB5.out
                    go_wp2_with fail
                    obtain ⟨X, hX⟩ : ∃ X, X = w6'.setCell ⟨eb, 4, none⟩ (.slice pa acc.length acc.length) := ⟨_, rfl⟩
                    have hXZ : X.heap[w.heap.size]? = some (.cells #[.int .u8 0, .int .u32 0, .bool false, .slice none 0 0, .slice none 0 0] 36 (0, 0)) := by rw [hX]; exact heap_set_other HRB5.out _ _ (by simp; omega)
                    have hXk : ∀ k, k ≠ eb → X.heap[k]? = w6'.heap[k]? := fun k hk => by rw [hX, Below.heap_setCell _ _ _ _ hk]
                    have hXG : w.grownBy X (some rk) := by rw [hX]; exact grown_new' HG5.out (grown_setCell _ _ _) (by simp; omega)
                    rw [← hX]
                    obtain ⟨W, hW, p0, pk, ps', po, pt, pu⟩ := five_stores X w.heap.size hXZ (.int .u8 cl) (.int .u32 m) (.bool true) (.slice none 0 0) (.slice pa acc.length acc.length)
                    rw [← hW]
                    obtain ⟨a0, a1, a2, a3, a4⟩ := five_cells p0
                    have HGW := Lib.hid (show w.grownBy W (some rk) from grown_new' hXG (show X.grownBy W (some w.heap.size) from ⟨po, pt, pu, by omega, fun k hk hne => pk k (fun e => hne (by rw [e]))⟩) (Nat.le_refl _))
                    refine bodyPost_ret (v := .tuple #[.agg #[.int .u8 cl, .int .u32 m, .bool true, .slice none 0 0, .slice pa acc.length acc.length], .bool true]) (by simp [results, Tryd.results35, go_sem, a0, a1, a2, a3, a4]) rfl ?_
                    refine ⟨HGW.out, ?_⟩
                    rw [HF.out]
                    have hkW : Keeps (okE w eb) w6' W := fun k hk _ => (pk k (by have := hk.1; omega)).trans (hXk k hk.2)
                    refine ⟨_, rfl, ?_, (pk rk (by omega)).trans ((hXk rk (by omega)).trans HR5.out)⟩
                    simp only [TreeR]
                    exact ⟨by omega, by omega, by simp, by unfold lim; omega, none, 0, pa, acc.length, rfl, by simp, Nat.le_refl _, .inl rfl, xs, ((hs9.weaken fun k hk => HROK.out k hk).keep hkW).weaken fun k hk => Nat.le_of_lt hk.1, TreesR.weaken (fun k hk => Nat.le_of_lt hk.1) _ _ (TreesR.keep hkW _ _ (TreesR.weaken (fun k hk => hk.1) _ _ HTS5.out))⟩
            · have HSK := Lib.hid hsk
              clear hsk
              go_wp2_with fail
              have hl6 : (Lib.trimPrefix r2 [61]).length ≤ 1048576 := Nat.le_trans (trim_le _ _) hlr
              refine (run_any digits16 (Lib.trimPrefix r2 [61]) rk (cnt + 1) w6 HR6.out (by unfold lim; omega)).mono ?_
              rintro e w7 ⟨rfl, hg7, hR7⟩
              obtain ⟨hx, hhx⟩ : ∃ l, l = (Lib.trimPrefix r2 [61]).takeWhile (Tg.among digits16) := ⟨_, rfl⟩
              obtain ⟨r4, hr4⟩ : ∃ l, l = (Lib.trimPrefix r2 [61]).dropWhile (Tg.among digits16) := ⟨_, rfl⟩
              have HDX := Lib.hid (show ∀ c ∈ hx, Tg.among digits16 c = true from fun c hc => takeWhile_all _ _ c (hhx ▸ hc))
              have hlx : hx.length ≤ 1048576 := by
                have := takeWhile_le (Tg.among digits16) (Lib.trimPrefix r2 [61])
                rw [hhx]
                omega
              have HBD := Lib.hid (show Tg.bodyP (Tg.parseP d) cl m (cnt + 1) r2 = if hx.length % 2 = 0 then some (.mk cl m false (Tg.unhex hx) [], cnt + 1, r4) else none by
                rw [Tg.bodyP, if_pos HSK.out, hhx, hr4])
              rw [← hr4] at hR7
              rw [← hhx]
              have HG7 := Lib.hid (grown_trans HG6.out hg7)
              have HZ7 := Lib.hid (blk_kept HZ6.out hg7 (by omega))
              have HX7 := Lib.hid (blk_kept HX6.out hg7 (by omega))
              have HR7 := Lib.hid hR7
              obtain ⟨x0, x1, x2, x3, x4⟩ := five_cells HX7.out
              obtain ⟨v0, v1, v2, v3, v4⟩ := five_free HX7.out
              have heb7 := lt_of_block HX7.out
              obtain ⟨nl, hnl⟩ : ∃ n, n = hx.length / 2 := ⟨_, rfl⟩
              have hq2 : (hx.length : Int) / 2 = (nl : Int) := by omega
              have hnl1 : 2 * nl ≤ hx.length := by omega
              have hmk := run_make_row' (P := Tryd.prog) 22 5 (.int .u8 0) 1 Tryd.underlying22 u8_info rfl .i64 .i64 nl (by omega) (by omega)
              have HNL := Lib.hid hnl
              clear hnl hg7 hR7 HG6 HZ6 HX6 HR6 HE6 hhx hr4 z0 z1 z2 z3 z4 y0 y1 y2 y3 y4
              go_wp2_with fail
              go_loopw [95] (fun i wr => ∃ (j : Nat) (cs : Array Value), j ≤ nl ∧ i = .int .i64 j ∧ wr.heap[w7.heap.size]? = some (.cells cs 5 (0, 0)) ∧ cs.size = nl ∧ Hid (∀ k, k < j → cs[k]? = (bvs (Tg.unhex hx))[k]?) ∧
                Hid (wr.heap[eb]? = some (.cells #[.int .u8 cl, .int .u32 m, .bool false, .slice (some ⟨w7.heap.size, 0, none⟩) nl nl, .slice none 0 0] 36 (0, 0))) ∧ Hid (wr.heap[w.heap.size]? = some (.cells #[.int .u8 0, .int .u32 0, .bool false, .slice none 0 0, .slice none 0 0] 36 (0, 0))) ∧ Hid (RS wr rk r4 (cnt + 1)) ∧ Hid (w.grownBy wr (some rk))) (fun i _ => nl - (intOf i).toNat)
              case atStart =>
                refine ⟨0, madeCells #[.int .u8 0] nl, by omega, rfl, ?_, size_madeCells _ _, fun k hk => by omega, ?_, ?_, ?_, ?_⟩
                · exact alloc_set_new _ _ _ _
                · exact heap_alloc (by simpa using heap_set HX7.out 3 (.slice (some ⟨w7.heap.size, 0, none⟩) nl nl)) _
                · exact heap_alloc (heap_set_other HZ7.out _ _ (by simp; omega)) _
                · exact heap_alloc (heap_set_other HR7.out _ _ (by simp; omega)) _
                · exact grown_trans (grown_new' HG7.out (grown_setCell _ _ _) (by simp; omega)) (grown_alloc _ _ _)
              case round =>
                obtain ⟨j, cs, hj, rfl, hh, hsz2, hcs, hX, hZ, hR, hG⟩ := hrel
                obtain ⟨x0, x1, x2, x3, x4⟩ := five_cells hX.out
                have HHV := Lib.hid hh
                by_cases hlt : j < nl
                · have c0 := cell_of hh j
                  have f0 := free_of hh j
                  rw [Array.getElem?_eq_getElem (by omega : j < cs.size)] at c0
                  have hszx : (⟨hx.toArray⟩ : ByteArray).size = hx.length := by simp [ByteArray.size]
                  have hd1 := HDX.out hx[2 * j] (List.getElem_mem (by omega))
                  have hd2 := HDX.out hx[2 * j + 1] (List.getElem_mem (by omega))
                  clear hh
                  obtain ⟨n1', hi1, hn1⟩ := hex_idx _ hd1
                  obtain ⟨n2', hi2, hn2⟩ := hex_idx _ hd2
                  have HUH := Lib.hid (unhex_get hx j (by omega) hi1 hi2)
                  have hor : bits .or .i64 ((n1' : Int) * 16) (n2' : Int) = (n1' : Int) * 16 + n2' := bits_join .i64 63 (by decide) (fun n k0 k1 => by rw [IntKind.wrap_i64]; omega) 4 _ _ (by omega) (by omega) (by omega) (by omega) (by omega) (by omega)
                  have hmo : ((n1' : Int) * 16 + n2') % 256 = ((n1' * 16 + n2' : Nat) : Int) := by omega
                  have hw2j : IntKind.i64.wrap (2 * (j : Int)) = 2 * (j : Int) := IntWalk.i64_in _ (by omega)
                  have hw2j1 : IntKind.i64.wrap (2 * (j : Int) + 1) = 2 * (j : Int) + 1 := IntWalk.i64_in _ (by omega)
                  have hz2j : (0 : Int) ≤ 2 * (j : Int) := by omega
                  have hz2j1 : (0 : Int) ≤ 2 * (j : Int) + 1 := by omega
                  have hb2j : 2 * (j : Int) < hx.length := by omega
                  have hb2j1 : 2 * (j : Int) + 1 < hx.length := by omega
                  obtain ⟨y1, hy1⟩ : ∃ y, y = hx[2 * j].toNat := ⟨_, rfl⟩
                  obtain ⟨y2, hy2⟩ : ∃ y, y = hx[2 * j + 1].toNat := ⟨_, rfl⟩
                  have hg1 : ∀ h', ((⟨hx.toArray⟩ : ByteArray)[(2 * (j : Int)).toNat]'h').toNat = y1 := fun h' => hy1.symm
                  have hg2 : ∀ h', ((⟨hx.toArray⟩ : ByteArray)[(2 * (j : Int) + 1).toNat]'h').toNat = y2 := fun h' => hy2.symm
                  have hg3 : ∀ h', ((⟨hx.toArray⟩ : ByteArray)[2 * j]'h').toNat = y1 := fun h' => hy1.symm
                  have hg4 : ∀ h', ((⟨hx.toArray⟩ : ByteArray)[2 * j + 1]'h').toNat = y2 := fun h' => hy2.symm
                  have hj1 : Lib.indexByte digits16 (UInt8.ofNat y1) = (n1' : Int) := by rw [hy1, UInt8.ofNat_toNat]; exact hi1
                  have hj2 : Lib.indexByte digits16 (UInt8.ofNat y2) = (n2' : Int) := by rw [hy2, UInt8.ofNat_toNat]; exact hi2
                  have hy1b : y1 < 256 := by rw [hy1]; exact UInt8.toNat_lt _
                  have hy2b : y2 < 256 := by rw [hy2]; exact UInt8.toNat_lt _
                  clear hy1 hy2 hi1 hi2 hd1 hd2
                  obtain ⟨bb, hbb⟩ : ∃ b, b = n1' * 16 + n2' := ⟨_, rfl⟩
                  rw [← hbb] at hmo HUH
                  have HBB := Lib.hid (show bb < 256 by omega)
                  have HBV := Lib.hid (show IntKind.u8.wrap (bits .or .i64 (IntKind.i64.wrap ((n1' : Int) * 16)) (n2' : Int)) = ((bb : Nat) : Int) by rw [IntWalk.i64_in ((n1' : Int) * 16) (by omega), hor, IntKind.wrap_u8]; omega)
                  clear hbb
                  go_upto_block 1 with (fail)
                  go_cut [] (fun w' => w' = (wr.setCell ⟨w7.heap.size, j, none⟩ (.int .u8 bb)).drew)
                  case first =>
                    go_wp2_with fail
                    go_region_law (go_simp
                                   go_at_call 49
                                   refine (indexByte_nat digits16 _ (by omega) _).mono ?_
                                   rintro e w8 ⟨hw8, rfl⟩
                                   have hw8' := hw8.symm
                                   subst hw8'
                                   simp only [hj1, hj2])
                    all_goals
                      go_wp2_with fail
                      go_meet
                      case rel => first | rfl | (rw [HBV.out])
                  case rest =>
                    subst hcut
                    go_wp2_with fail
                    go_roundw
                    case rel =>
                      refine ⟨j + 1, cs.setIfInBounds j (.int .u8 bb), by omega, by go_num, heap_set (w := wr) HHV.out j (.int .u8 bb), by simp [hsz2], fun k hk => ?_, heap_set_other (w := wr) hX.out ⟨w7.heap.size, j, none⟩ (.int .u8 bb) (by simp; omega), heap_set_other (w := wr) hZ.out ⟨w7.heap.size, j, none⟩ (.int .u8 bb) (by simp; have := lt_of_block HZ7.out; omega), heap_set_other (w := wr) hR.out ⟨w7.heap.size, j, none⟩ (.int .u8 bb) (by simp; have := lt_of_block HR7.out; omega), grown_trans (grown_new' hG.out (grown_setCell _ _ _) (by have := HG7.out.size; simp; omega)) (grown_drew _ _)⟩
                      rw [Array.getElem?_setIfInBounds]
                      by_cases hkj : j = k
                      · rw [if_pos hkj, if_pos (by omega), ← hkj]
                        simp only [bvs, List.getElem?_map, HUH.out, Option.map_some, bv]
                        have := HBB.out
                        simp
                        omega
                      · rw [if_neg hkj]
                        exact hcs.out k (by omega)
                    case measure => simp [intOf]; omega
                · have HJ := Lib.hid (show j = nl by omega)
                  obtain ⟨z0, z1, z2, z3, z4⟩ := five_cells hZ.out
                  obtain ⟨y0, y1, y2, y3, y4⟩ := five_free hZ.out
                  clear hh
                  go_wp2_with fail
                  obtain ⟨W, hW, p0, pk, ps', po, pt, pu⟩ := five_stores wr w.heap.size hZ.out (.int .u8 cl) (.int .u32 m) (.bool false) (.slice (some ⟨w7.heap.size, 0, none⟩) nl nl) (.slice none 0 0)
                  rw [← hW]
                  obtain ⟨a0, a1, a2, a3, a4⟩ := five_cells p0
                  have HGW := Lib.hid (show w.grownBy W (some rk) from grown_new' hG.out (show wr.grownBy W (some w.heap.size) from ⟨po, pt, pu, by omega, fun k hk hne => pk k (fun e => hne (by rw [e]))⟩) (Nat.le_refl _))
                  refine bodyPost_ret (v := .tuple #[.agg #[.int .u8 cl, .int .u32 m, .bool false, .slice (some ⟨w7.heap.size, 0, none⟩) nl nl, .slice none 0 0], .bool ((hx.length : Int) % 2 == 0)]) (by simp [results, Tryd.results35, go_sem, a0, a1, a2, a3, a4]) rfl ?_
                  refine ⟨HGW.out, ?_⟩
                  rw [HB.out, HBD.out]
                  by_cases hev : hx.length % 2 = 0
                  · rw [if_pos hev, show ((hx.length : Int) % 2 == 0) = true by simp; omega]
                    have hul : (Tg.unhex hx).length = nl := by rw [unhex_len _ _ (Nat.le_refl _), HNL.out]
                    refine ⟨_, rfl, ?_, (pk rk (by omega)).trans hR.out⟩
                    simp only [TreeR, hul]
                    refine ⟨by omega, by omega, by unfold lim; omega, by simp, _, _, _, _, rfl, Nat.le_refl _, by simp, .inr ⟨w7.heap.size, 0, rfl, by have := HG7.out.size; omega, fun k u hu => ?_⟩, [], .inl rfl, rfl⟩
                    have hkl : k < nl := by
                      have := (List.getElem?_eq_some_iff.1 hu).1
                      rwa [bvs_length, hul] at this
                    rw [Nat.zero_add, cell_of ((pk w7.heap.size (by have := lt_of_block HZ7.out; omega)).trans HHV.out), hcs.out k (by have := HJ.out; omega)]
                    exact hu
                  · rw [if_neg hev, show ((hx.length : Int) % 2 == 0) = false by simp; omega]
                    exact ⟨_, _, _, _, _, _, _, _, _, rfl⟩
          · have HF := Lib.hid (show Tg.parseP (d + 1) cnt (x :: r) = none by rw [HP.out, if_neg (by omega), HNP.out, if_neg (fun h => hmx h.2)])
            rw [hit]
            clear hit
            go_wp2_with fail
            exact parse_fail HZ4.out HG4.out (Nat.le_refl _) rfl rfl rfl HF.out
        · have HF := Lib.hid (show Tg.parseP (d + 1) cnt (x :: r) = none by rw [HP.out, if_neg (by omega), HNP.out, if_neg (fun h => hit h.1)])
          have hbe : (Lib.itoa v == num) = false := by simp [hit]
          clear hit
          go_wp2_with fail
          all_goals exact parse_fail HZ4.out HG4.out (Nat.le_refl _) rfl rfl rfl HF.out
end Go.Proofs.YthonjbaeadbhdaaDoor
