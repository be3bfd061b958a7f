/- Contracts of the reader of bytes: tags.must, take, next. -/
import Derived.Test.YthonjbaeadbhdaaDoorTagsClip
import Derived.Test.YthonjbaeadbhdaaDoorTagsIdent
import Derived.WalkLawsBesides
namespace Go.Proofs.YthonjbaeadbhdaaDoor
open Go.RowKit

/-- A panic with an error's number. -/
def raised (n : Int) : Ending := .panicked [{ v := .iface 25 (.int .i64 n), recovered := false }]
/-- The address behind l elements of one cell. -/
def cutA (a : Option Addr) (cap l : Nat) : Option Addr := if cap = l then a else a.map (·.add l)
theorem cutA_reads {ok : Nat → Prop} {w : World} {a : Option Addr} {l : List UInt8} {cap : Nat} (h : SliceAt ok w a (bvs l)) (hc : l.length ≤ cap) (n : Nat) : SliceAt ok w (cutA a cap n) (bvs (l.drop n)) := by
  rcases h with h | ⟨g, o, rfl, hg, hcell⟩
  · left
    have : l = [] := by simpa [bvs] using h
    simp [this, bvs]
  · rcases Nat.lt_or_ge n l.length with hn | hn
    · right
      refine ⟨g, o + n, ?_, hg, fun j u hu => ?_⟩
      · unfold cutA
        rw [if_neg (by omega)]
        simp only [Option.map_some, Addr.add]
        split
        · rename_i h0
          subst h0
          rfl
        · rfl
      · rw [Nat.add_assoc]
        refine hcell (n + j) u ?_
        simpa [bvs, List.getElem?_drop] using hu
    · left
      rw [List.drop_eq_nil_of_le hn]
      rfl
theorem take_reads {ok : Nat → Prop} {w : World} {a : Option Addr} {l : List UInt8} (h : SliceAt ok w a (bvs l)) (n : Nat) : SliceAt ok w a (bvs (l.take n)) := by
  rcases h with h | ⟨g, o, rfl, hg, hcell⟩
  · left
    have : l = [] := by simpa [bvs] using h
    simp [this, bvs]
  · right
    refine ⟨g, o, rfl, hg, fun j u hu => hcell j u ?_⟩
    simp only [bvs, List.map_take, List.getElem?_take] at hu
    split at hu
    · exact hu
    · cases hu
theorem run_cut (w : World) (a : Option Addr) (len cap n : Nat) (N : Int) (hN : N = n) (h : n ≤ len) : (Instr.slice 22 (.slice a len cap) (some (.int .i64 N)) none none).run Tryd.prog w = .ok (.slice (cutA a cap n) (len - n) (cap - n)) w := by
  subst hN
  obtain ⟨i, hi, hz, hsz, hby⟩ := info_parts u8_info
  have hu : (Instr.sliceBound (.int .i64 (n : Int)) len .sliceB).run Tryd.prog w = .ok n w := by
    simp [Instr.sliceBound, asIntOf, h]
  simp [Instr.slice, run_underlying Tryd.underlying22, Instr.sliceBounds, hu, sizeOf, typeInfo, hi, hsz, cutA]
/-- The bytes that are left to be read, and the count, in the decoder's block. -/
def St (w : World) (dk : Nat) (rest : List UInt8) (cnt : Nat) : Prop :=
  ∃ ra rc, w.heap[dk]? = some (.cells #[.slice ra rest.length rc, .int .i64 cnt] 98 (0, 0)) ∧ rest.length ≤ rc ∧ rest.length ≤ lim ∧ SliceAt (fun k => k < dk) w ra (bvs rest)

def MustPost (w : World) (b : Bool) (n : Int) (e : Ending) (w' : World) : Prop := w = w' ∧ e = if b = true then .returned (.tuple #[]) else raised n
theorem must_any (b : Bool) (n : Int) (w : World) : Calls Tryd.prog 59 #[.bool b, .int .i64 n] w (MustPost w b n) := by
  cases b
  · go_enter Tryd.func59, Tryd.ntmps59
    go_wp2_with fail
    exact ⟨rfl, rfl, rfl⟩
  · go_enter Tryd.func59, Tryd.ntmps59
    go_wp2_with fail
    go_end0
    exact ⟨rfl, rfl⟩

theorem St.two {w : World} {g : Nat} {a b : Value} {t : TypeId} {f : Nat × Nat} (h : w.heap[g]? = some (.cells #[a, b] t f)) : w.cell? ⟨g, 0, none⟩ = some a ∧ w.cell? ⟨g, 1, none⟩ = some b := ⟨cell_of h 0, cell_of h 1⟩

/-- 'take': n bytes; what is left. -/
def TakePost (w : World) (dk : Nat) (rest : List UInt8) (cnt n : Nat) (e : Ending) (w' : World) : Prop :=
  if rest.length < n then e = raised 4 ∧ w = w' else
    ∃ a c, e = .returned (.slice a n c) ∧ n ≤ c ∧ SliceAt (fun k => k < dk) w' a (bvs (rest.take n)) ∧ St w' dk (rest.drop n) cnt ∧ w.grownBy w' (some dk)

set_option maxRecDepth 100000 in
theorem take_any (dk : Nat) (rest : List UInt8) (cnt n : Nat) (N : Int) (hN : N = n) (w : World) (h : St w dk rest cnt) (hn : n ≤ lim) : Calls Tryd.prog 64 #[.pointer (some ⟨dk, 0, none⟩), .int .i64 N] w (TakePost w dk rest cnt n) := by
  subst hN
  obtain ⟨ra, rc, hh, h1, h2, h3⟩ := h
  obtain ⟨c0, c1⟩ := St.two hh
  have f0 := free_of hh 0
  unfold lim at hn h2
  have HH := Lib.hid hh
  have H3 := Lib.hid h3
  clear hh h3
  by_cases hlt : rest.length < n
  · go_enter Tryd.func64, Tryd.ntmps64
    go_wp2_with fail
    refine ⟨rfl, ?_⟩
    unfold TakePost
    rw [if_pos hlt]
    exact ⟨rfl, rfl⟩
  · have hcut := fun w => run_cut w ra rest.length rc n n rfl (by omega)
    go_enter Tryd.func64, Tryd.ntmps64
    go_wp2_with fail
    go_ret
    unfold TakePost
    rw [if_neg hlt]
    have hk : Keeps (fun k => k < dk) w (w.setCell ⟨dk, 0, none⟩ (.slice (cutA ra rc n) (rest.length - n) (rc - n))) := Keeps.of_grown (grown_setCell _ _ _) fun k hk e => by simp at e; omega
    refine ⟨ra, rc, rfl, by omega, (take_reads H3.out n).keep hk, ⟨cutA ra rc n, rc - n, ?_, by simp; omega, by simp; unfold lim; omega, (cutA_reads H3.out h1 n).keep hk⟩, grown_setCell _ _ _⟩
    rw [List.length_drop]
    exact heap_set HH.out 0 _

/-- 'next': one byte; what is left. -/
def NextPost (w : World) (dk : Nat) (rest : List UInt8) (cnt : Nat) (e : Ending) (w' : World) : Prop :=
  match rest with
  | [] => e = raised 4 ∧ w = w'
  | x :: r => e = .returned (.int .u8 x.toNat) ∧ St w' dk r cnt ∧ w.grownBy w' (some dk)

set_option maxRecDepth 100000 in
theorem next_any (dk : Nat) (rest : List UInt8) (cnt : Nat) (w : World) (h : St w dk rest cnt) : Calls Tryd.prog 60 #[.pointer (some ⟨dk, 0, none⟩)] w (NextPost w dk rest cnt) := by
  have HT := Lib.hid (take_any dk rest cnt 1 1 rfl w h (by simp [lim]))
  clear h
  go_enter Tryd.func60, Tryd.ntmps60
  go_wp2_with fail
  refine HT.out.mono ?_
  intro e w1 hp
  unfold TakePost at hp
  cases rest with
  | nil =>
    rw [if_pos (by simp)] at hp
    obtain ⟨rfl, rfl⟩ := hp
    unfold raised
    go_wp2_with fail
    exact ⟨rfl, rfl, rfl⟩
  | cons x r =>
    rw [if_neg (by simp)] at hp
    obtain ⟨a, c, rfl, hc, hs, hst, hg⟩ := hp
    have HST := Lib.hid hst
    have HG := Lib.hid hg
    clear hst hg
    rcases hs with hs | ⟨g, o, rfl, hgo, hcell⟩
    · simp [bvs] at hs
    · have hc0 : w1.cell? ⟨g, o, none⟩ = some (.int .u8 x.toNat) := hcell 0 _ rfl
      clear hcell
      go_wp2_with fail
      go_ret
      exact ⟨rfl, HST.out, HG.out⟩
end Go.Proofs.YthonjbaeadbhdaaDoor
