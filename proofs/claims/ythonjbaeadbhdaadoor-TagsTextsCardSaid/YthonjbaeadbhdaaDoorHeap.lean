/- How Go's values of this seat read: slices of bytes, trees; and that a reading stays where its blocks are kept. -/
import Derived.Test.YthonjbaeadbhdaaDoorProg
import Derived.Test.YthonjbaeadbhdaaDoorTagsPure
import Derived.WalkKit
import Derived.WalkSpells
import Derived.Deep.LoopGhost
import Derived.Lib.Hide
import Derived.KernelRfl
namespace Go.Proofs.YthonjbaeadbhdaaDoor
open Go.RowKit

/-- Where a walk stands still. -/
def Stop (p : Prop) : Prop := p
theorem Stop.mk {p : Prop} (h : Stop p) : p := h
theorem Stop.of {p : Prop} (h : p) : Stop p := h

/-- The cells from an address on. -/
def CellsAt (w : World) (g o : Nat) (xs : List Value) : Prop := ∀ j u, xs[j]? = some u → w.cell? ⟨g, o + j, none⟩ = some u
/-- What a slice's address leads to; its block is one of those that 'ok' tells. -/
def SliceAt (ok : Nat → Prop) (w : World) (a : Option Addr) (xs : List Value) : Prop := xs = [] ∨ ∃ g o, a = some ⟨g, o, none⟩ ∧ ok g ∧ CellsAt w g o xs
/-- The blocks that 'ok' tells are as they were. -/
def Keeps (ok : Nat → Prop) (w w' : World) : Prop := ∀ k, ok k → k < w.heap.size → w'.heap[k]? = w.heap[k]?

theorem Keeps.of_below {w w' : World} (h : Below w.heap.size w w') (ok : Nat → Prop) : Keeps ok w w' := fun k _ hk => h.block k hk
theorem Keeps.of_grown {w w' : World} {row : Option Nat} (h : w.grownBy w' row) {ok : Nat → Prop} (hne : ∀ k, ok k → some k ≠ row) : Keeps ok w w' := fun k hk hl => h.block k hl (hne k hk)
theorem CellsAt.keep {ok : Nat → Prop} {w w' : World} (hk : Keeps ok w w') {g o : Nat} (hg : ok g) {xs : List Value} (h : CellsAt w g o xs) : CellsAt w' g o xs := fun j u hu => by
  have hc := h j u hu
  have hl := World.block_lt_of_cell? w _ hc
  exact (World.cell?_of_block (w := w) (w' := w') (a := ⟨g, o + j, none⟩) (hk g hg hl)).trans hc
theorem SliceAt.keep {ok : Nat → Prop} {w w' : World} (hk : Keeps ok w w') {a : Option Addr} {xs : List Value} (h : SliceAt ok w a xs) : SliceAt ok w' a xs := by
  rcases h with h | ⟨g, o, rfl, hg, hc⟩
  · exact .inl h
  · exact .inr ⟨g, o, rfl, hg, hc.keep hk hg⟩
theorem SliceAt.weaken {ok ok' : Nat → Prop} (hok : ∀ k, ok k → ok' k) {w : World} {a : Option Addr} {xs : List Value} (h : SliceAt ok w a xs) : SliceAt ok' w a xs := by
  rcases h with h | ⟨g, o, rfl, hg, hc⟩
  · exact .inl h
  · exact .inr ⟨g, o, rfl, hok g hg, hc⟩
/-- The cells of what is read are there: its block is one of the world's. -/
theorem SliceAt.weaken_lt {ok : Nat → Prop} {w : World} {B : Nat} (hB : w.heap.size ≤ B) {a : Option Addr} {xs : List Value} (h : SliceAt ok w a xs) : SliceAt (fun k => ok k ∧ k < B) w a xs := by
  rcases h with h | ⟨g, o, rfl, hg, hc⟩
  · exact .inl h
  · rcases xs with _ | ⟨u, xs⟩
    · exact .inl rfl
    · exact .inr ⟨g, o, rfl, ⟨hg, Nat.lt_of_lt_of_le (World.block_lt_of_cell? w _ (hc 0 u rfl)) hB⟩, hc⟩

theorem grown_refl (w : World) (row : Option Nat) : w.grownBy w row := World.grownBy.refl w row
theorem grown_trans {w a b : World} {row : Option Nat} (h : w.grownBy a row) (k : a.grownBy b row) : w.grownBy b row :=
  ⟨k.os.trans h.os, k.tape.trans h.tape, k.output.trans h.output, Nat.le_trans h.size k.size, fun i hi hr => (k.block i (Nat.lt_of_lt_of_le hi h.size) hr).trans (h.block i hi hr)⟩
theorem grown_any {w a : World} {row : Option Nat} (h : w.grownBy a none) : w.grownBy a row := ⟨h.os, h.tape, h.output, h.size, fun i hi _ => h.block i hi (by simp)⟩
theorem grown_below {w a : World} (h : Below w.heap.size w a) (row : Option Nat) : w.grownBy a row := ⟨h.os, h.tape, h.output, h.size, fun i hi _ => h.block i hi⟩
theorem below_of_grown {w a : World} (h : w.grownBy a none) : Below w.heap.size w a := ⟨h.os, h.tape, h.output, h.size, fun i hi => h.block i hi (by simp)⟩
/-- The row that may be written is a new one. -/
theorem grown_new {w a b : World} {g : Nat} (h : w.grownBy a none) (k : a.grownBy b (some g)) (hg : w.heap.size ≤ g) : w.grownBy b none :=
  ⟨k.os.trans h.os, k.tape.trans h.tape, k.output.trans h.output, Nat.le_trans h.size k.size, fun i hi _ => (k.block i (Nat.lt_of_lt_of_le hi h.size) (by intro e; injection e with e; omega)).trans (h.block i hi (by simp))⟩
theorem grown_new' {w a b : World} {g : Nat} {row : Option Nat} (h : w.grownBy a row) (k : a.grownBy b (some g)) (hg : w.heap.size ≤ g) : w.grownBy b row :=
  ⟨k.os.trans h.os, k.tape.trans h.tape, k.output.trans h.output, Nat.le_trans h.size k.size, fun i hi hr => (k.block i (Nat.lt_of_lt_of_le hi h.size) (by intro e; injection e with e; omega)).trans (h.block i hi hr)⟩
theorem grown_setCell (w : World) (a : Addr) (v : Value) : w.grownBy (w.setCell a v) (some a.block) :=
  ⟨rfl, rfl, rfl, by simp, fun k _ hk => Below.heap_setCell _ _ _ _ (fun e => hk (by rw [e]))⟩
theorem grown_alloc (w : World) (o : Obj) (row : Option Nat) : w.grownBy (w.alloc o) row := World.grownBy_alloc w o row
theorem grown_drew (w : World) (row : Option Nat) : w.grownBy w.drew row := ⟨rfl, rfl, rfl, Nat.le_refl _, fun _ _ _ => rfl⟩
theorem heap_alloc {w : World} {g : Nat} {o : Obj} (h : w.heap[g]? = some o) (x : Obj) : (w.alloc x).heap[g]? = some o := by
  rw [Below.heap_alloc w x g (lt_of_block h)]
  exact h
theorem heap_set_other {w : World} {g : Nat} {o : Obj} (h : w.heap[g]? = some o) (a : Addr) (v : Value) (hne : g ≠ a.block) : (w.setCell a v).heap[g]? = some o := by
  rw [Below.heap_setCell _ _ _ _ hne]
  exact h
/-- A store into a block whose cells are known. -/
theorem heap_set {w : World} {g : Nat} {c : Array Value} {t : TypeId} {f : Nat × Nat} (h : w.heap[g]? = some (.cells c t f)) (i : Nat) (v : Value) : (w.setCell ⟨g, i, none⟩ v).heap[g]? = some (.cells (c.setIfInBounds i v) t f) := by
  have hlt := lt_of_block h
  have h' : w.heap[g] = .cells c t f := by simpa [Array.getElem?_eq_getElem hlt] using h
  show (w.heap.modify g _)[g]? = _
  rw [Array.getElem?_eq_getElem (by simpa using hlt), Array.getElem_modify_self, h']
  rfl
theorem cell_of {w : World} {g : Nat} {c : Array Value} {t : TypeId} {f : Nat × Nat} (h : w.heap[g]? = some (.cells c t f)) (i : Nat) : w.cell? ⟨g, i, none⟩ = c[i]? := by simp [World.cell?, h]
theorem free_of {w : World} {g : Nat} {c : Array Value} {t : TypeId} (h : w.heap[g]? = some (.cells c t (0, 0))) (i : Nat) : w.frozen? ⟨g, i, none⟩ = false := by simp [World.frozen?, h]
theorem heap_grown {w w' : World} {row : Option Nat} (h : w.grownBy w' row) {g : Nat} {o : Obj} (hg : w.heap[g]? = some o) (hne : some g ≠ row) : w'.heap[g]? = some o := (h.block g (lt_of_block hg) hne).trans hg

theorem five_cells {w : World} {g : Nat} {a b c d e : Value} {t : TypeId} {f : Nat × Nat} (h : w.heap[g]? = some (.cells #[a, b, c, d, e] t f)) :
    w.cell? ⟨g, 0, none⟩ = some a ∧ w.cell? ⟨g, 1, none⟩ = some b ∧ w.cell? ⟨g, 2, none⟩ = some c ∧ w.cell? ⟨g, 3, none⟩ = some d ∧ w.cell? ⟨g, 4, none⟩ = some e :=
  ⟨cell_of h 0, cell_of h 1, cell_of h 2, cell_of h 3, cell_of h 4⟩
theorem five_free {w : World} {g : Nat} {a b c d e : Value} {t : TypeId} (h : w.heap[g]? = some (.cells #[a, b, c, d, e] t (0, 0))) :
    w.frozen? ⟨g, 0, none⟩ = false ∧ w.frozen? ⟨g, 1, none⟩ = false ∧ w.frozen? ⟨g, 2, none⟩ = false ∧ w.frozen? ⟨g, 3, none⟩ = false ∧ w.frozen? ⟨g, 4, none⟩ = false :=
  ⟨free_of h 0, free_of h 1, free_of h 2, free_of h 3, free_of h 4⟩
theorem alloc_new (w : World) (o : Obj) : (w.alloc o).heap[w.heap.size]? = some o := heap_alloc_new w o

/-- A byte's value. -/
def bv (b : UInt8) : Value := .int .u8 (b.toNat : Int)
def bvs (l : List UInt8) : List Value := l.map bv
theorem bvs_length (l : List UInt8) : (bvs l).length = l.length := by simp [bvs]
theorem bvs_append (l m : List UInt8) : bvs (l ++ m) = bvs l ++ bvs m := by simp [bvs]
theorem bvs_get {l : List UInt8} {j : Nat} (h : j < l.length) : (bvs l)[j]? = some (.int .u8 (l[j].toNat : Int)) := by simp [bvs, bv, h]
theorem bvs_oneCell (l : List UInt8) : ∀ u ∈ bvs l, u.oneCell' = true := by
  intro u hu
  obtain ⟨b, _, rfl⟩ := List.mem_map.1 hu
  rfl
/-- The greatest length that is met. -/
def lim : Nat := 140737488355328

mutual
/-- A value of type tags.Tree reads as a tree. -/
def TreeR (ok : Nat → Prop) (w : World) : Tg.Tree → Value → Prop
  | .mk c t b v ps, x => c < 256 ∧ t < 4294967296 ∧ v.length ≤ lim ∧ ps.length ≤ lim ∧ ∃ va vc pa pc, x = .agg #[.int .u8 c, .int .u32 t, .bool b, .slice va v.length vc, .slice pa ps.length pc] ∧
      v.length ≤ vc ∧ ps.length ≤ pc ∧ SliceAt ok w va (bvs v) ∧ ∃ xs, SliceAt ok w pa xs ∧ TreesR ok w ps xs
/-- The cells of a row of trees. -/
def TreesR (ok : Nat → Prop) (w : World) : List Tg.Tree → List Value → Prop
  | [], xs => xs = []
  | p :: ps, xs => ∃ x0 x1 x2 x3 x4 rest, xs = x0 :: x1 :: x2 :: x3 :: x4 :: rest ∧ TreeR ok w p (.agg #[x0, x1, x2, x3, x4]) ∧ TreesR ok w ps rest
end
mutual
theorem TreeR.keep {ok : Nat → Prop} {w w' : World} (hk : Keeps ok w w') : ∀ (t : Tg.Tree) (x : Value), TreeR ok w t x → TreeR ok w' t x
  | .mk c t b v ps, x, h => by
    simp only [TreeR] at h ⊢
    obtain ⟨h1, h2, h3, h4, va, vc, pa, pc, hx, h5, h6, h7, xs, h8, h9⟩ := h
    exact ⟨h1, h2, h3, h4, va, vc, pa, pc, hx, h5, h6, h7.keep hk, xs, h8.keep hk, TreesR.keep hk ps xs h9⟩
theorem TreesR.keep {ok : Nat → Prop} {w w' : World} (hk : Keeps ok w w') : ∀ (ps : List Tg.Tree) (xs : List Value), TreesR ok w ps xs → TreesR ok w' ps xs
  | [], xs, h => by simpa only [TreesR] using h
  | p :: ps, xs, h => by
    simp only [TreesR] at h ⊢
    obtain ⟨x0, x1, x2, x3, x4, rest, hx, h1, h2⟩ := h
    exact ⟨x0, x1, x2, x3, x4, rest, hx, TreeR.keep hk p _ h1, TreesR.keep hk ps rest h2⟩
end
mutual
theorem TreeR.weaken {ok ok' : Nat → Prop} (hok : ∀ k, ok k → ok' k) {w : World} : ∀ (t : Tg.Tree) (x : Value), TreeR ok w t x → TreeR ok' w t x
  | .mk c t b v ps, x, h => by
    simp only [TreeR] at h ⊢
    obtain ⟨h1, h2, h3, h4, va, vc, pa, pc, hx, h5, h6, h7, xs, h8, h9⟩ := h
    exact ⟨h1, h2, h3, h4, va, vc, pa, pc, hx, h5, h6, h7.weaken hok, xs, h8.weaken hok, TreesR.weaken hok ps xs h9⟩
theorem TreesR.weaken {ok ok' : Nat → Prop} (hok : ∀ k, ok k → ok' k) {w : World} : ∀ (ps : List Tg.Tree) (xs : List Value), TreesR ok w ps xs → TreesR ok' w ps xs
  | [], xs, h => by simpa only [TreesR] using h
  | p :: ps, xs, h => by
    simp only [TreesR] at h ⊢
    obtain ⟨x0, x1, x2, x3, x4, rest, hx, h1, h2⟩ := h
    exact ⟨x0, x1, x2, x3, x4, rest, hx, TreeR.weaken hok p _ h1, TreesR.weaken hok ps rest h2⟩
end
mutual
theorem TreeR.weaken_lt {ok : Nat → Prop} {w : World} {B : Nat} (hB : w.heap.size ≤ B) : ∀ (t : Tg.Tree) (x : Value), TreeR ok w t x → TreeR (fun k => ok k ∧ k < B) w t x
  | .mk c t b v ps, x, h => by
    simp only [TreeR] at h ⊢
    obtain ⟨h1, h2, h3, h4, va, vc, pa, pc, hx, h5, h6, h7, xs, h8, h9⟩ := h
    exact ⟨h1, h2, h3, h4, va, vc, pa, pc, hx, h5, h6, h7.weaken_lt hB, xs, h8.weaken_lt hB, TreesR.weaken_lt hB ps xs h9⟩
theorem TreesR.weaken_lt {ok : Nat → Prop} {w : World} {B : Nat} (hB : w.heap.size ≤ B) : ∀ (ps : List Tg.Tree) (xs : List Value), TreesR ok w ps xs → TreesR (fun k => ok k ∧ k < B) w ps xs
  | [], xs, h => by simpa only [TreesR] using h
  | p :: ps, xs, h => by
    simp only [TreesR] at h ⊢
    obtain ⟨x0, x1, x2, x3, x4, rest, hx, h1, h2⟩ := h
    exact ⟨x0, x1, x2, x3, x4, rest, hx, TreeR.weaken_lt hB p _ h1, TreesR.weaken_lt hB ps rest h2⟩
end
/-- A tree's value, its fields laid open. -/
theorem TreeR.open {ok : Nat → Prop} {w : World} {c t : Nat} {b : Bool} {v : List UInt8} {ps : List Tg.Tree} {x : Value} (h : TreeR ok w (.mk c t b v ps) x) :
    c < 256 ∧ t < 4294967296 ∧ v.length ≤ lim ∧ ps.length ≤ lim ∧ ∃ va vc pa pc, x = .agg #[.int .u8 c, .int .u32 t, .bool b, .slice va v.length vc, .slice pa ps.length pc] ∧
      v.length ≤ vc ∧ ps.length ≤ pc ∧ SliceAt ok w va (bvs v) ∧ ∃ xs, SliceAt ok w pa xs ∧ TreesR ok w ps xs := by simpa only [TreeR] using h
/-- The cells of element j of a row of trees. -/
theorem TreesR.at_ {ok : Nat → Prop} {w : World} : ∀ (ps : List Tg.Tree) (xs : List Value), TreesR ok w ps xs → ∀ j p, ps[j]? = some p →
    ∃ x0 x1 x2 x3 x4, TreeR ok w p (.agg #[x0, x1, x2, x3, x4]) ∧ xs[5 * j]? = some x0 ∧ xs[5 * j + 1]? = some x1 ∧ xs[5 * j + 2]? = some x2 ∧ xs[5 * j + 3]? = some x3 ∧ xs[5 * j + 4]? = some x4
  | [], _, _, j, p, hp => by simp at hp
  | q :: ps, xs, h, j, p, hp => by
    simp only [TreesR] at h
    obtain ⟨x0, x1, x2, x3, x4, rest, rfl, h1, h2⟩ := h
    match j, hp with
    | 0, hp =>
      simp at hp
      subst hp
      exact ⟨x0, x1, x2, x3, x4, h1, rfl, rfl, rfl, rfl, rfl⟩
    | j + 1, hp =>
      obtain ⟨y0, y1, y2, y3, y4, hy, e0, e1, e2, e3, e4⟩ := TreesR.at_ ps rest h2 j p (by simpa using hp)
      refine ⟨y0, y1, y2, y3, y4, hy, ?_, ?_, ?_, ?_, ?_⟩ <;> simpa [Nat.mul_succ, Nat.add_assoc] using ‹_›
theorem TreesR.length {ok : Nat → Prop} {w : World} : ∀ (ps : List Tg.Tree) (xs : List Value), TreesR ok w ps xs → xs.length = ps.length * 5
  | [], xs, h => by
    simp only [TreesR] at h
    simp [h]
  | p :: ps, xs, h => by
    simp only [TreesR] at h
    obtain ⟨x0, x1, x2, x3, x4, rest, rfl, _, h2⟩ := h
    simp [TreesR.length ps rest h2, Nat.add_mul]
theorem TreesR.append {ok : Nat → Prop} {w : World} : ∀ (ps qs : List Tg.Tree) (xs ys : List Value), TreesR ok w ps xs → TreesR ok w qs ys → TreesR ok w (ps ++ qs) (xs ++ ys)
  | [], qs, xs, ys, h, k => by
    simp only [TreesR] at h
    subst h
    simpa using k
  | p :: ps, qs, xs, ys, h, k => by
    simp only [TreesR] at h
    obtain ⟨x0, x1, x2, x3, x4, rest, rfl, h1, h2⟩ := h
    simp only [List.cons_append, TreesR]
    exact ⟨x0, x1, x2, x3, x4, _, rfl, h1, TreesR.append ps qs rest ys h2 k⟩
/-- The value of a tree with the given addresses and capacities. -/
def tv (p : Tg.Tree) (va : Option Addr) (vc : Nat) (pa : Option Addr) (pc : Nat) : Value :=
  .agg #[.int .u8 p.cls, .int .u32 p.tag, .bool p.built, .slice va p.val.length vc, .slice pa p.parts.length pc]
theorem TreeR.form {ok : Nat → Prop} {w : World} {p : Tg.Tree} {x : Value} (h : TreeR ok w p x) :
    ∃ va vc pa pc, x = .agg #[.int .u8 p.cls, .int .u32 p.tag, .bool p.built, .slice va p.val.length vc, .slice pa p.parts.length pc] := by
  obtain ⟨c, t, b, v, ps⟩ := p
  obtain ⟨_, _, _, _, va, vc, pa, pc, rfl, _⟩ := h.open
  exact ⟨va, vc, pa, pc, rfl⟩
/-- Element j of a row of trees in memory: its five cells, as the walk addresses them. -/
theorem part_cells {ok : Nat → Prop} {w : World} {pa : Option Addr} {xs : List Value} {ps : List Tg.Tree} (hs : SliceAt ok w pa xs) (ht : TreesR ok w ps xs) {j : Nat} {p : Tg.Tree} (hp : ps[j]? = some p) :
    ∃ g o va vc pa' pc, pa = some ⟨g, o, none⟩ ∧ ok g ∧ TreeR ok w p (.agg #[.int .u8 p.cls, .int .u32 p.tag, .bool p.built, .slice va p.val.length vc, .slice pa' p.parts.length pc]) ∧
      w.cell? ⟨g, o + j * 5, none⟩ = some (.int .u8 p.cls) ∧ w.cell? ⟨g, o + j * 5 + 1, none⟩ = some (.int .u32 p.tag) ∧ w.cell? ⟨g, o + j * 5 + 2, none⟩ = some (.bool p.built) ∧
      w.cell? ⟨g, o + j * 5 + 3, none⟩ = some (.slice va p.val.length vc) ∧ w.cell? ⟨g, o + j * 5 + 4, none⟩ = some (.slice pa' p.parts.length pc) := by
  obtain ⟨x0, x1, x2, x3, x4, hx, e0, e1, e2, e3, e4⟩ := ht.at_ ps xs j p hp
  obtain ⟨va, vc, pa', pc, he⟩ := hx.form
  have he' : x0 = .int .u8 p.cls ∧ x1 = .int .u32 p.tag ∧ x2 = .bool p.built ∧ x3 = .slice va p.val.length vc ∧ x4 = .slice pa' p.parts.length pc := by simpa using he
  obtain ⟨rfl, rfl, rfl, rfl, rfl⟩ := he'
  rcases hs with rfl | ⟨g, o, rfl, hg, hc⟩
  · simp at e0
  · rw [Nat.mul_comm] at e0 e1 e2 e3 e4
    exact ⟨g, o, va, vc, pa', pc, rfl, hg, hx, hc _ _ e0, hc _ _ e1, hc _ _ e2, hc _ _ e3, hc _ _ e4⟩
end Go.Proofs.YthonjbaeadbhdaaDoor
