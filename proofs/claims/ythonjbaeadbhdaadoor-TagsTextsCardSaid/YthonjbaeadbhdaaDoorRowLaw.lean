/- A row of cells that a call makes and appends to: what it is, and what 'append' does to it. -/
import Derived.Test.YthonjbaeadbhdaaDoorHeap
namespace Go.Proofs.YthonjbaeadbhdaaDoor
open Go.RowKit

/-- The slice v of n elements of type e ('size' cells each) has the cells xs. row none: it has no capacity. row g: it begins at the head of block g, which may be written. -/
def Row (e : TypeId) (size : Nat) (w : World) (row : Option Nat) (v : Value) (n : Nat) (xs : List Value) : Prop :=
  xs.length = n * size ∧ match row with
  | none => ∃ a, v = .slice a 0 0 ∧ n = 0
  | some g => ∃ cap cur, v = .slice (some ⟨g, 0, none⟩) n cap ∧ w.heap[g]? = some (.cells cur e (0, 0)) ∧ n ≤ cap ∧ cap ≤ maxLen ∧ cur.size = cap * size ∧ cur.toList.take (n * size) = xs
/-- The row behind an append: the same, or a new one. -/
def RowStep (w : World) (row row' : Option Nat) : Prop := row' = row ∨ ∃ g, row' = some g ∧ w.heap.size ≤ g

theorem RowStep.refl (w : World) (row : Option Nat) : RowStep w row row := .inl rfl
theorem RowStep.trans {w w1 : World} {a b c : Option Nat} (h : RowStep w a b) (hs : w.heap.size ≤ w1.heap.size) (k : RowStep w1 b c) : RowStep w a c := by
  rcases k with rfl | ⟨g, rfl, hg⟩
  · exact h
  · exact .inr ⟨g, rfl, Nat.le_trans hs hg⟩
/-- Two appends, one behind the other. -/
theorem grown_step {w a b : World} {row row' : Option Nat} (h : w.grownBy a row) (hr : RowStep w row row') (k : a.grownBy b row') : w.grownBy b row := by
  rcases hr with rfl | ⟨g, rfl, hg⟩
  · exact grown_trans h k
  · exact grown_new' h k hg
theorem Row.nil (e : TypeId) (size : Nat) (w : World) (a : Option Addr) : Row e size w none (.slice a 0 0) 0 [] := ⟨by simp, a, rfl, rfl⟩
theorem Row.length {e : TypeId} {size : Nat} {w : World} {row : Option Nat} {v : Value} {n : Nat} {xs : List Value} (h : Row e size w row v n xs) : xs.length = n * size := h.1
theorem Row.keep {e : TypeId} {size : Nat} {w w' : World} {row : Option Nat} {v : Value} {n : Nat} {xs : List Value} (h : Row e size w row v n xs) (hk : ∀ g, row = some g → w'.heap[g]? = w.heap[g]?) : Row e size w' row v n xs := by
  refine ⟨h.1, ?_⟩
  cases row with
  | none => exact h.2
  | some g =>
    obtain ⟨cap, cur, h1, h2, h3⟩ := h.2
    exact ⟨cap, cur, h1, (hk g rfl).trans h2, h3⟩
theorem Row.lt {e : TypeId} {size : Nat} {w : World} {g : Nat} {v : Value} {n : Nat} {xs : List Value} (h : Row e size w (some g) v n xs) : g < w.heap.size := by
  obtain ⟨cap, cur, h1, h2, h3⟩ := h.2
  exact lt_of_block h2
theorem Row.grown {e : TypeId} {size : Nat} {w w' : World} {row r : Option Nat} {v : Value} {n : Nat} {xs : List Value} (h : Row e size w row v n xs) (hg : w.grownBy w' r) (hne : row = none ∨ row ≠ r) : Row e size w' row v n xs :=
  h.keep fun g e => by
    subst e
    exact hg.block g h.lt (by rcases hne with hne | hne <;> simp_all)
theorem Row.below {e : TypeId} {size : Nat} {w w' : World} {row : Option Nat} {v : Value} {n : Nat} {xs : List Value} (h : Row e size w row v n xs) (hb : Below w.heap.size w w') : Row e size w' row v n xs :=
  h.keep fun g e => by
    subst e
    exact hb.block g h.lt
theorem Row.row_lt {e : TypeId} {size : Nat} {w : World} {row : Option Nat} {v : Value} {n : Nat} {xs : List Value} (h : Row e size w row v n xs) : ∀ g, row = some g → g < w.heap.size := by
  intro g e
  subst e
  exact h.lt
/-- A block of the call's own that is no row of its own stays. -/
theorem box_kept {w wr : World} {row : Option Nat} {o : Obj} (hrow : ∀ g, row = some g → g < w.heap.size) (h : (w.alloc o).grownBy wr row) : wr.heap[w.heap.size]? = some o :=
  heap_grown h (alloc_new w o) (fun e => by have := hrow _ e.symm; omega)
/-- The shape of the value. -/
theorem Row.shape {e : TypeId} {size : Nat} {w : World} {row : Option Nat} {v : Value} {n : Nat} {xs : List Value} (h : Row e size w row v n xs) : ∃ a c, v = .slice a n c ∧ n ≤ c ∧ n ≤ maxLen := by
  cases row with
  | none =>
    obtain ⟨a, rfl, rfl⟩ := h.2
    exact ⟨a, 0, rfl, Nat.le_refl _, Nat.zero_le _⟩
  | some g =>
    obtain ⟨cap, cur, rfl, _, h3, h4, _⟩ := h.2
    exact ⟨_, cap, rfl, h3, Nat.le_trans h3 h4⟩
/-- It reads as its cells. -/
theorem Row.reads {e : TypeId} {size : Nat} {w : World} {row : Option Nat} {v : Value} {n : Nat} {xs : List Value} (h : Row e size w row v n xs) : ∃ a c, v = .slice a n c ∧ n ≤ c ∧ SliceAt (fun k => row = some k) w a xs := by
  cases row with
  | none =>
    obtain ⟨a, rfl, rfl⟩ := h.2
    exact ⟨a, 0, rfl, Nat.le_refl _, .inl (List.eq_nil_of_length_eq_zero (by simpa using h.1))⟩
  | some g =>
    obtain ⟨cap, cur, rfl, hh, h3, h4, h5, h6⟩ := h.2
    refine ⟨_, cap, rfl, h3, .inr ⟨g, 0, rfl, rfl, fun j u hu => ?_⟩⟩
    rw [Nat.zero_add, cell_of hh]
    have hj : j < n * size := by
      have := (List.getElem?_eq_some_iff.1 hu).1
      rw [h.1] at this
      exact this
    rw [← h6, List.getElem?_take, if_pos hj] at hu
    simpa using hu
/-- The first append behind W, and the next ones. -/
theorem after_append {W W1 w' : World} {row row' : Option Nat} (hW : W.grownBy W1 row) (hg : W1.grownBy w' row) (hr : RowStep W1 row row') : W.grownBy w' row ∧ RowStep W row row' :=
  ⟨grown_trans hW hg, RowStep.trans (RowStep.refl _ _) hW.size hr⟩
theorem next_append {W a a1 b : World} {row r1 r2 : Option Nat} (h : W.grownBy a row) (k : RowStep W row r1) (ha : a.grownBy a1 row) (hg : a1.grownBy b r1) (hr : RowStep a1 r1 r2) : W.grownBy b row ∧ RowStep W row r2 :=
  ⟨grown_step (grown_trans h ha) k hg, RowStep.trans k (Nat.le_trans h.size ha.size) hr⟩
/-- The source of an append: m elements with the cells 'news'. -/
def Src (w : World) (size : Nat) (x : Value) (m : Nat) (news : List Value) : Prop :=
  news.length = m * size ∧ (∀ u ∈ news, u.oneCell' = true) ∧ ∃ a c, x = .slice a m c ∧ SliceAt AnyK w a news
where AnyK : Nat → Prop := fun _ => True

theorem run_append_row {P : Program} (w : World) (t ty e : TypeId) (i : TypeInfo) (z : Value) (size bytes : Nat) (ht : P.underlying t = some (.slice e)) (hi : P.info? e = some i) (hz : i.zero = some z)
    (hsize : i.size = size) (hby : i.bytes = bytes) (hzs : z.cells.size = size) (hsz : 0 < size)
    (row : Option Nat) (v x : Value) (n m : Nat) (xs news : List Value) (hrow : Row e size w row v n xs) (hx : Src w size x m news)
    (h63 : n + m ≤ maxLen) (hbytes : (n + m) * bytes ≤ 140737488355328) :
    ∃ v' w' row', (Builtin.append_ #[t, t] ty #[v, x]).run P w = .ok v' w' ∧ Row e size w' row' v' (n + m) (xs ++ news) ∧ w.grownBy w' row ∧ RowStep w row row' := by
  subst hsize
  subst hby
  obtain ⟨hl, h1, a, c, rfl, hsrc⟩ := hx
  have hsmall : n + m ≤ 9223372036854775807 := by simp only [maxLen] at h63; omega
  have hlen : (xs ++ news).length = (n + m) * i.size := by rw [List.length_append, hrow.1, hl, Nat.add_mul]
  by_cases hm : m = 0
  · subst hm
    have hn : news = [] := List.eq_nil_of_length_eq_zero (by simpa using hl)
    subst hn
    refine ⟨v, w, row, ?_, by simpa using hrow, grown_refl _ _, .inl rfl⟩
    cases row with
    | none =>
      obtain ⟨a', rfl, rfl⟩ := hrow.2
      cases a <;> cases a' <;> simp [Builtin.append_, run_underlying ht, sizeOf, typeInfo, hi, Builtin.lenOf, Builtin.firstCells, loadCells, loadCellsFrom, storeCells]
    | some g =>
      obtain ⟨cap, cur, rfl, _, hnc, _⟩ := hrow.2
      cases a <;> simp [Builtin.append_, run_underlying ht, sizeOf, typeInfo, hi, Builtin.lenOf, Builtin.firstCells, hnc, loadCells, loadCellsFrom, storeCells]
  · have hne : news ≠ [] := fun e => by
      rw [e] at hl
      have : 0 < m * i.size := Nat.mul_pos (by omega) hsz
      simp at hl
      omega
    rcases hsrc with h0 | ⟨gs, os, rfl, -, hcells⟩
    · exact absurd h0 hne
    have hnews : ∀ j u, news[j]? = some u → w.cell? ((⟨gs, os, none⟩ : Addr).add j) = some u := fun j u hu => by
      have e : (⟨gs, os, none⟩ : Addr).add j = ⟨gs, os + j, none⟩ := by unfold Addr.add; split <;> simp_all
      rw [e]
      exact hcells j u hu
    have grown : ∀ (old : Nat), old < n + m → ∀ (r : Option Nat),
        Row e i.size (w.drew.alloc (.cells (xs.toArray ++ news.toArray ++ Builtin.zeroCells z.cells (grownCap w (n + m) old e - (n + m))) e)) (some w.heap.size)
          (.slice (some ⟨w.heap.size, 0, none⟩) (n + m) (grownCap w (n + m) old e)) (n + m) (xs ++ news) ∧
        w.grownBy (w.drew.alloc (.cells (xs.toArray ++ news.toArray ++ Builtin.zeroCells z.cells (grownCap w (n + m) old e - (n + m))) e)) r := by
      intro old ho r
      have hge := grownCap_ge w (n + m) old e
      have hcm : grownCap w (n + m) old e ≤ maxLen := grownCap_le_maxLen w (n + m) old e h63
      refine ⟨⟨hlen, _, _, rfl, heap_alloc_new w.drew _, hge, hcm, ?_, ?_⟩, ⟨rfl, rfl, rfl, by simp, fun k hk _ => Below.heap_alloc w.drew _ k hk⟩⟩
      · simp only [Array.size_append, List.size_toArray, size_zeroCells, hzs, hrow.1, hl, ← Nat.add_mul]
        congr 1
        omega
      · simp only [Array.toList_append, List.append_assoc]
        rw [← List.append_assoc, ← hlen]
        exact List.take_left
    cases row with
    | none =>
      obtain ⟨a', rfl, rfl⟩ := hrow.2
      have hx0 : xs = [] := List.eq_nil_of_length_eq_zero (by simpa using hrow.1)
      subst hx0
      have hgr := grown 0 (by omega) none
      cases a' with
      | none =>
        have hr := run_append_nil (P := P) w t ty e i z ht hi hz ⟨gs, os, none⟩ m c news hl hnews (by omega) (by omega) (by have hb := hbytes; simp only [Nat.zero_add] at hb; omega)
        simp only [Nat.zero_add, List.nil_append, Array.empty_append] at hgr ⊢
        exact ⟨_, _, some w.heap.size, hr, hgr.1, hgr.2, .inr ⟨_, rfl, Nat.le_refl _⟩⟩
      | some b =>
        have hr := run_append_grow (P := P) w t ty e i z ht hi hz b 0 0 [] (by simp) (by simp) ⟨gs, os, none⟩ m c news hl hnews (by omega) (by omega) (growslice_fits (by omega) hbytes)
        exact ⟨_, _, some w.heap.size, hr, hgr.1, hgr.2, .inr ⟨_, rfl, Nat.le_refl _⟩⟩
    | some g =>
      obtain ⟨cap, cur, rfl, hg, hnc, hcm, hcs, htake⟩ := hrow.2
      by_cases hroom : n + m ≤ cap
      · have hfit : n * i.size + news.length ≤ cur.size := by rw [hl, hcs, ← Nat.add_mul]; exact Nat.mul_le_mul_right _ hroom
        have hr := run_append_room (P := P) w t ty e i ht hi g n cap cur hg ⟨gs, os, none⟩ m c news hl hnews h1 hroom hfit
        refine ⟨_, _, some g, hr, ⟨hlen, _, _, rfl, setRow_heap w g cur _ e _ hg, hroom, hcm, ?_, ?_⟩, ⟨rfl, rfl, rfl, by simp, fun k _ hk => setRow_other w g k _ (fun e => hk (by simp [e]))⟩, .inl rfl⟩
        · simp only [List.size_toArray, List.length_append, List.length_take, List.length_drop, Array.length_toList]
          omega
        · rw [htake, ← hlen]
          exact List.take_left
      · obtain ⟨a1, c1, he, _, hreads⟩ := hrow.reads
        have ha1 : a1 = some ⟨g, 0, none⟩ := by injection he with h1 h2 h3; exact h1.symm
        subst ha1
        have holds : ∀ j u, xs[j]? = some u → w.cell? ((⟨g, 0, none⟩ : Addr).add j) = some u := fun j u hu => by
          rcases hreads with h0 | ⟨g', o', e', -, hc'⟩
          · rw [h0] at hu
            simp at hu
          · have eg : g = g' := by injection e' with e'; injection e'
            have eo : 0 = o' := by injection e' with e'; injection e'
            subst eg
            subst eo
            have e : (⟨g, 0, none⟩ : Addr).add j = ⟨g, 0 + j, none⟩ := by unfold Addr.add; split <;> simp_all
            rw [e]
            exact hc' j u hu
        have hr := run_append_grow (P := P) w t ty e i z ht hi hz ⟨g, 0, none⟩ n cap xs hrow.1 holds ⟨gs, os, none⟩ m c news hl hnews (by omega) (by omega) (growslice_fits (by omega) hbytes)
        have hgr := grown cap (by omega) (some g)
        exact ⟨_, _, some w.heap.size, hr, hgr.1, hgr.2, .inr ⟨_, rfl, Nat.le_refl _⟩⟩

/-- 'append' in a walk. -/
theorem wpList_append_row {P : Program} {w : World} {ops : Array Oper} {rest : List Oper} {o : Oper} {a : Act} {Q : Exit → Act → World → Prop} (hgd : o.guard = none) (s x : Operand) (t : TypeId)
    (ho : o.op = .call { callee := .builtin .append, args := #[s, x], argTypes := #[t, t] })
    (e : TypeId) (i : TypeInfo) (z : Value) (size bytes : Nat) (ht : P.underlying t = some (.slice e)) (hi : P.info? e = some i) (hz : i.zero = some z)
    (hsize : i.size = size) (hby : i.bytes = bytes) (hzs : z.cells.size = size) (hsz : 0 < size)
    (row : Option Nat) (v vx : Value) (n m : Nat) (xs news : List Value) (hs : a.eval s = v) (hx : a.eval x = vx) (hrow : Row e size w row v n xs) (hsrc : Src w size vx m news)
    (h63 : n + m ≤ maxLen) (hbytes : (n + m) * bytes ≤ 140737488355328)
    (h : ∀ v' w' row', Row e size w' row' v' (n + m) (xs ++ news) → w.grownBy w' row → RowStep w row row' → wpList P ops Q rest (a.put o.dst v') w') : wpList P ops Q (o :: rest) a w := by
  refine wpList_plain hgd fun K hK => ?_
  obtain ⟨v', w', row', hr, h2, h3, h4⟩ := run_append_row (P := P) w t o.type e i z size bytes ht hi hz hsize hby hzs hsz row v vx n m xs news hrow hsrc h63 hbytes
  unfold Oper.wp execOp
  simp only [ho, resolve, invoke, builtin, Sem.run_bind, Sem.run_pure, Result.andThen_ok, List.map_toArray, List.map_cons, List.map_nil, hs, hx, hr]
  exact hK _ _ (h v' w' row' h2 h3 h4)
/-- 'append' in a region that draws its order. -/
theorem step_append_row {P : Program} {w : World} {ops : Array Oper} {o : Oper} {a : Act} {K : Act → World → Prop} {Q : Exit → Act → World → Prop} {E : Prop} (hgd : o.guard = none) (s x : Operand) (t : TypeId)
    (ho : o.op = .call { callee := .builtin .append, args := #[s, x], argTypes := #[t, t] })
    (e : TypeId) (i : TypeInfo) (z : Value) (size bytes : Nat) (ht : P.underlying t = some (.slice e)) (hi : P.info? e = some i) (hz : i.zero = some z)
    (hsize : i.size = size) (hby : i.bytes = bytes) (hzs : z.cells.size = size) (hsz : 0 < size)
    (row : Option Nat) (v vx : Value) (n m : Nat) (xs news : List Value) (hs : a.eval s = v) (hx : a.eval x = vx) (hrow : Row e size w row v n xs) (hsrc : Src w size vx m news)
    (h63 : n + m ≤ maxLen) (hbytes : (n + m) * bytes ≤ 140737488355328)
    (h : ∀ v' w' row', Row e size w' row' v' (n + m) (xs ++ news) → w.grownBy w' row → RowStep w row row' → K (a.put o.dst v') w') :
    if Region.wanted o (yielded ops a.tmps) = true then Oper.wp P o a w K Q else E := by
  have hw : Region.wanted o (yielded ops a.tmps) = true := by simp [Region.wanted, hgd]
  rw [if_pos hw]
  obtain ⟨v', w', row', hr, h2, h3, h4⟩ := run_append_row (P := P) w t o.type e i z size bytes ht hi hz hsize hby hzs hsz row v vx n m xs news hrow hsrc h63 hbytes
  unfold Oper.wp execOp
  simp only [ho, resolve, invoke, builtin, Sem.run_bind, Sem.run_pure, Result.andThen_ok, List.map_toArray, List.map_cons, List.map_nil, hs, hx, hr]
  exact h v' w' row' h2 h3 h4
end Go.Proofs.YthonjbaeadbhdaaDoor
