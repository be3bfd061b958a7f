/- Contract of alike. -/
import Derived.Test.YthonjbaeadbhdaaDoorTagsFlat
import Derived.BigQuiet
import Derived.Deep.QuietTactic
namespace Go.Proofs.YthonjbaeadbhdaaDoor
open Go.RowKit

theorem below_drewN (w : World) (n : Nat) {B : Nat} : Below B w (w.drewN n) := ⟨rfl, rfl, rfl, Nat.le_refl _, fun _ _ => rfl⟩
/-- A node's value. -/
def ndV (n : Tg.Nd) : Value := .agg #[.int .i64 n.cls, .int .i64 n.tag, .bool n.built, .string ⟨n.val.toArray⟩, .int .i64 n.parts]
theorem NodesR.cells {w : World} {a : Option Addr} {c m : Nat} {l : List Tg.Nd} (h : NodesR w (.slice a m c) l) {j : Nat} {n : Tg.Nd} (hn : l[j]? = some n) : ∃ g o, a = some ⟨g, o, none⟩ ∧ w.cell? ⟨g, o + j * 5, none⟩ = some (.int .i64 n.cls) ∧ w.cell? ⟨g, o + j * 5 + 1, none⟩ = some (.int .i64 n.tag) ∧
    w.cell? ⟨g, o + j * 5 + 2, none⟩ = some (.bool n.built) ∧ w.cell? ⟨g, o + j * 5 + 3, none⟩ = some (.string ⟨n.val.toArray⟩) ∧ w.cell? ⟨g, o + j * 5 + 4, none⟩ = some (.int .i64 n.parts) := by
  obtain ⟨a', c', h1, h2, h3⟩ := h
  injection h1 with q1 q2 q3
  subst q1
  obtain ⟨e0, e1, e2, e3, e4⟩ := ndCells_at l j n hn
  rcases h3 with h3 | ⟨g, o, rfl, -, hc⟩
  · rw [h3] at e0
    simp at e0
  · exact ⟨g, o, rfl, hc _ _ e0, hc _ _ e1, hc _ _ e2, hc _ _ e3, hc _ _ e4⟩

theorem node_held : Tryd.prog.stoodInHeld 87 = false := by kernel_rfl
theorem node_guard : Tryd.prog.eqGuardType Tryd.prog.depth 87 = false := by kernel_rfl
theorem node_under : Tryd.prog.underlying 87 = some (.struct (Tryd.prog.fieldsOf 87)) := by kernel_rfl
theorem drop_beq {l m : List Tg.Nd} {j : Nat} {a b : Tg.Nd} (ha : l[j]? = some a) (hb : m[j]? = some b) : (l.drop j == m.drop j) = ((a == b) && (l.drop (j + 1) == m.drop (j + 1))) := by
  obtain ⟨h1, h2⟩ := List.getElem?_eq_some_iff.1 ha
  obtain ⟨h3, h4⟩ := List.getElem?_eq_some_iff.1 hb
  rw [List.drop_eq_getElem_cons h1, List.drop_eq_getElem_cons h3, h2, h4]
  rfl
theorem list_beq (a b : List UInt8) : ((⟨a.toArray⟩ : ByteArray).toList == (⟨b.toArray⟩ : ByteArray).toList) = (a == b) := by rw [bytes_toList, bytes_toList]
set_option maxRecDepth 100000 in
theorem node_fields : (Tryd.prog.fieldsOf 87).toList.map (fun f => (f.name == "_", f.type, f.offset)) = [(false, 3, 0), (false, 3, 1), (false, 4, 2), (false, 9, 3), (false, 3, 4)] := by kernel_rfl
set_option maxRecDepth 100000 in
theorem run_node_neq (n m : Tg.Nd) (w : World) : (binOp .neq 87 (ndV n) (ndV m)).run Tryd.prog w = Result.ok (.bool (!(n == m))) w := by
  have hu3 := Tryd.underlying3
  have hu4 := Tryd.underlying4
  have hu9 := Tryd.underlying9
  have hf := node_fields
  unfold ndV
  rw [run_neq_struct, run_equalIn_struct _ _ _ _ _ node_under node_held]
  generalize (Tryd.prog.fieldsOf 87).toList = fs at hf
  have hl : fs.length = 5 := by simpa using congrArg List.length hf
  match fs, hl, hf with
  | [f0, f1, f2, f3, f4], _, hf =>
    simp only [List.map_cons, List.map_nil, List.cons.injEq, Prod.mk.injEq, and_true, beq_eq_false_iff_ne] at hf
    obtain ⟨⟨a0, b0, c0⟩, ⟨a1, b1, c1⟩, ⟨a2, b2, c2⟩, ⟨a3, b3, c3⟩, a4, b4, c4⟩ := hf
    obtain ⟨n0, n1, n2, n3, n4⟩ := n
    obtain ⟨m0, m1, m2, m3, m4⟩ := m
    simp [Op.eqFields, a0, b0, c0, a1, b1, c1, a2, b2, c2, a3, b3, c3, a4, b4, c4, go_sem, hu3, hu4, hu9]
    by_cases e0 : n0 = m0
    · by_cases e1 : n1 = m1
      · by_cases e2 : n2 = m2
        · by_cases e3 : n3 = m3
          · by_cases e4 : n4 = m4
            · simp [e0, e1, e2, e3, e4]
            · have : ¬ (n4 : Int) = m4 := by omega
              simp [e0, e1, e2, e3, e4, this]
          · simp [e0, e1, e2, e3]
        · simp [e0, e1, e2]
      · have : ¬ (n1 : Int) = m1 := by omega
        simp [e0, e1, this]
    · have : ¬ (n0 : Int) = m0 := by omega
      simp [e0, this]

set_option maxRecDepth 100000 in
set_option maxHeartbeats 1000000 in
theorem alike_any (l m : List Tg.Nd) (u v : Value) (w : World) (hl : l.length ≤ lim) (hm : m.length ≤ lim) (h : NodesR w u l) (k : NodesR w v m) : Calls Tryd.prog 22 #[u, v] w (BoolPost w (l == m)) := by
  have H := Lib.hid h
  have K := Lib.hid k
  obtain ⟨a, c, rfl, hc, -⟩ := h
  obtain ⟨b, d, rfl, hd, -⟩ := k
  unfold lim at hl hm
  by_cases hlen : l.length = m.length
  · have hle : ((l.length : Int) != m.length) = false := by simp [hlen]
    have HL := Lib.hid hlen
    clear hlen
    go_enter Tryd.func22, Tryd.ntmps22
    go_wp2_with fail
    go_loopw [5] (fun i wr => ∃ j : Nat, j ≤ l.length ∧ i = .int .i64 j ∧ Hid (∃ n, wr = w.drewN n) ∧ Hid ((l == m) = (l.drop j == m.drop j))) (fun i _ => l.length - (intOf i).toNat)
    case atStart => exact ⟨0, by omega, rfl, ⟨0, rfl⟩, rfl⟩
    case round =>
      obtain ⟨j, hj, rfl, hw, he⟩ := hrel
      obtain ⟨nd, rfl⟩ := hw.out
      have HE := Lib.hid he.out
      clear hw he
      by_cases hlt : j < l.length
      · obtain ⟨n1, hn1⟩ : ∃ n, l[j]? = some n := ⟨_, List.getElem?_eq_getElem hlt⟩
        obtain ⟨n2, hn2⟩ : ∃ n, m[j]? = some n := ⟨_, List.getElem?_eq_getElem (by rw [← HL.out]; exact hlt)⟩
        obtain ⟨g, o, rfl, c0, c1, c2, c3, c4⟩ := H.out.cells hn1
        obtain ⟨g', o', rfl, d0, d1, d2, d3, d4⟩ := K.out.cells hn2
        have hlt2 : j < m.length := by rw [← HL.out]; exact hlt
        have hneq := fun w => run_node_neq n1 n2 w
        have hgd := fun (w : World) (x y : Operand) (xs ys : Array Value) => run_eqGuard_agg (P := Tryd.prog) w .neq 87 x y xs ys node_guard
        simp only [ndV] at hneq
        have HN := Lib.hid (drop_beq hn1 hn2)
        clear hn1 hn2
        go_wp2_with fail
        go_quiet (fail)
        clear hneq hgd c0 c1 c2 c3 c4 d0 d1 d2 d3 d4
        cases hq : (n1 == n2)
        · rw [hq] at HN
          clear hq
          have hNN := HN.out
          rw [Bool.false_and] at hNN
          have HF := Lib.hid (show (l == m) = false from HE.out.trans hNN)
          clear hNN
          go_wp2_with fail
          go_ret
          rw [HF.out]
          exact ⟨rfl, (below_drewN _ _).trans (below_drewN _ _)⟩
        · rw [hq] at HN
          clear hq
          have hNN := HN.out
          rw [Bool.true_and] at hNN
          have HF := Lib.hid (HE.out.trans hNN)
          clear hNN
          go_wp2_with fail
          go_roundw
          case rel => exact ⟨j + 1, by omega, by go_num, ⟨nd + nq, rfl⟩, HF.out⟩
          case measure => simp [intOf]; omega
      · have HF := Lib.hid (show (l == m) = true by
          rw [HE.out, List.drop_of_length_le (by omega), List.drop_of_length_le (by rw [← HL.out]; omega)]
          rfl)
        go_wp2_with fail
        go_ret
        rw [HF.out]
        exact ⟨rfl, below_drewN _ _⟩
  · have HF := Lib.hid (show (l == m) = false by
      cases he : (l == m) with
      | false => rfl
      | true => exact absurd (congrArg List.length (eq_of_beq he)) hlen)
    have hle : ((l.length : Int) != m.length) = true := by simp; omega
    clear hlen
    go_enter Tryd.func22, Tryd.ntmps22
    go_wp2_with fail
    go_ret
    rw [HF.out]
    exact ⟨rfl, Below.refl _ _⟩
end Go.Proofs.YthonjbaeadbhdaaDoor
