/- Slices of bytes: appended to, read. -/
import Derived.Test.YthonjbaeadbhdaaDoorRowLaw
namespace Go.Proofs.YthonjbaeadbhdaaDoor
open Go.RowKit

theorem u8_info : (Tryd.prog.info? 5).map (fun i => (i.zero, i.size, i.bytes)) = some (some (.int .u8 0), 1, 1) := by kernel_rfl
/-- A slice of bytes that may be appended to. -/
def Buf (w : World) (row : Option Nat) (v : Value) (l : List UInt8) : Prop := Row 5 1 w row v l.length (bvs l)
/-- Bytes that are read: a slice's value. -/
def BytesR (ok : Nat → Prop) (w : World) (v : Value) (l : List UInt8) : Prop := ∃ a c, v = .slice a l.length c ∧ l.length ≤ c ∧ l.length ≤ lim ∧ SliceAt ok w a (bvs l)
theorem BytesR.keep {ok : Nat → Prop} {w w' : World} (hk : Keeps ok w w') {v : Value} {l : List UInt8} (h : BytesR ok w v l) : BytesR ok w' v l := by
  obtain ⟨a, c, h1, h2, h3, h4⟩ := h
  exact ⟨a, c, h1, h2, h3, h4.keep hk⟩
theorem BytesR.weaken {ok ok' : Nat → Prop} (hok : ∀ k, ok k → ok' k) {w : World} {v : Value} {l : List UInt8} (h : BytesR ok w v l) : BytesR ok' w v l := by
  obtain ⟨a, c, h1, h2, h3, h4⟩ := h
  exact ⟨a, c, h1, h2, h3, h4.weaken hok⟩
theorem BytesR.any {ok : Nat → Prop} {w : World} {v : Value} {l : List UInt8} (h : BytesR ok w v l) : BytesR (fun _ => True) w v l := h.weaken fun _ _ => trivial
theorem BytesR.src {ok : Nat → Prop} {w : World} {v : Value} {l : List UInt8} (h : BytesR ok w v l) : Src w 1 v l.length (bvs l) := by
  obtain ⟨a, c, h1, h2, h3, h4⟩ := h
  exact ⟨by simp [bvs_length], bvs_oneCell l, a, c, h1, h4.weaken fun _ _ => trivial⟩
theorem Buf.nil (w : World) (a : Option Addr) : Buf w none (.slice a 0 0) [] := Row.nil _ _ _ a
theorem Buf.reads {w : World} {row : Option Nat} {v : Value} {l : List UInt8} (h : Buf w row v l) (hl : l.length ≤ lim) : BytesR (fun k => row = some k) w v l := by
  obtain ⟨a, c, h1, h2, h3⟩ := Row.reads h
  exact ⟨a, c, h1, h2, hl, h3⟩
theorem Buf.shape {w : World} {row : Option Nat} {v : Value} {l : List UInt8} (h : Buf w row v l) : ∃ a c, v = .slice a l.length c ∧ l.length ≤ c := by
  obtain ⟨a, c, h1, h2, _⟩ := Row.shape h
  exact ⟨a, c, h1, h2⟩
theorem Buf.grown {w w' : World} {row r : Option Nat} {v : Value} {l : List UInt8} (h : Buf w row v l) (hg : w.grownBy w' r) (hne : row = none ∨ row ≠ r) : Buf w' row v l := Row.grown h hg hne
theorem Buf.below {w w' : World} {row : Option Nat} {v : Value} {l : List UInt8} (h : Buf w row v l) (hb : Below w.heap.size w w') : Buf w' row v l := Row.below h hb
theorem Buf.alloc {w : World} {row : Option Nat} {v : Value} {l : List UInt8} (h : Buf w row v l) (o : Obj) : Buf (w.alloc o) row v l := Row.grown h (grown_alloc w o none) (by cases row <;> simp)
/-- One byte in a block of its own. -/
theorem src_one (w : World) (X : Int) (b : UInt8) (hX : X = (b.toNat : Int)) {g : Nat} (hg : g = w.heap.size) : Src (w.alloc (.cells #[.int .u8 X] 5)) 1 (.slice (some ⟨g, 0, none⟩) 1 1) 1 (bvs [b]) := by
  subst hX
  subst hg
  refine ⟨by simp [bvs], bvs_oneCell _, _, _, rfl, .inr ⟨w.heap.size, 0, rfl, trivial, fun j u hu => ?_⟩⟩
  match j, hu with
  | 0, hu =>
    simp [bvs, bv] at hu
    subst hu
    simp
/-- Two bytes in a block of their own. -/
theorem src_two (w : World) (X Y : Int) (b c : UInt8) (hX : X = (b.toNat : Int)) (hY : Y = (c.toNat : Int)) {g : Nat} (hg : g = w.heap.size) : Src (w.alloc (.cells #[.int .u8 X, .int .u8 Y] 5)) 1 (.slice (some ⟨g, 0, none⟩) 2 2) 2 (bvs [b, c]) := by
  subst hX
  subst hg
  subst hY
  refine ⟨by simp [bvs], bvs_oneCell _, _, _, rfl, .inr ⟨w.heap.size, 0, rfl, trivial, fun j u hu => ?_⟩⟩
  match j, hu with
  | 0, hu =>
    simp [bvs, bv] at hu
    subst hu
    simp
  | 1, hu =>
    simp [bvs, bv] at hu
    subst hu
    simp
/-- 'append' to a slice of bytes. -/
theorem wp_append {w : World} {ops : Array Oper} {rest : List Oper} {o : Oper} {a : Act} {Q : Exit → Act → World → Prop} (hgd : o.guard = none) (s x : Operand)
    (ho : o.op = .call { callee := .builtin .append, args := #[s, x], argTypes := #[22, 22] })
    {row : Option Nat} {v vx : Value} {l m : List UInt8} {k : Nat} (hs : a.eval s = v) (hx : a.eval x = vx) (hbuf : Buf w row v l) (hsrc : Src w 1 vx k (bvs m)) (hk : k = m.length) (hlim : l.length + m.length ≤ 140737488355328)
    (h : ∀ v' w' row', Buf w' row' v' (l ++ m) → w.grownBy w' row → RowStep w row row' → wpList Tryd.prog ops Q rest (a.put o.dst v') w') : wpList Tryd.prog ops Q (o :: rest) a w := by
  obtain ⟨i, hi, hz, hsz, hby⟩ := info_parts u8_info
  subst hk
  refine wpList_append_row hgd s x 22 ho 5 i (.int .u8 0) 1 1 Tryd.underlying22 hi hz hsz hby rfl (by decide) row v vx l.length m.length (bvs l) (bvs m) hs hx hbuf hsrc (by unfold maxLen; omega) (by omega) ?_
  intro v' w' row' h1 h2 h3
  exact h v' w' row' (by unfold Buf; rw [bvs_append, List.length_append]; exact h1) h2 h3
end Go.Proofs.YthonjbaeadbhdaaDoor
