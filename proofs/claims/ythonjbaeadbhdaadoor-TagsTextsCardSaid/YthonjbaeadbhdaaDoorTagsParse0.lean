/- The plain model of tags.Parse; strconv.Atoi. -/
import Derived.Test.YthonjbaeadbhdaaDoorTagsRead
import Derived.Test.YthonjbaeadbhdaaDoorTagsElemPure
namespace Go.Proofs.YthonjbaeadbhdaaDoor
open Go.RowKit

/-! ### Atoi -/
/-- What the functions on texts read of the library's variables. -/
def Env (w : World) : Prop := Tab w ∧ (∃ T p, w.cell? ⟨2, 0, none⟩ = some (.iface T p)) ∧ (∃ T p, w.cell? ⟨3, 0, none⟩ = some (.iface T p))
theorem cell_lt {w : World} {a : Addr} {v : Value} (h : w.cell? a = some v) : a.block < w.heap.size := by
  unfold World.cell? at h
  split at h
  · rename_i hh
    exact lt_of_block hh
  · cases h
theorem Env.lt {w : World} (h : Env w) : 0 < w.heap.size ∧ 2 < w.heap.size ∧ 3 < w.heap.size := by
  obtain ⟨h1, ⟨_, _, h2⟩, ⟨_, _, h3⟩⟩ := h
  exact ⟨h1.lt, cell_lt h2, cell_lt h3⟩
theorem Env.keep {w w' : World} {row : Option Nat} (h : Env w) (hg : w.grownBy w' row) (h1 : row ≠ some 0) (h2 : row ≠ some 2) (h3 : row ≠ some 3) : Env w' := by
  obtain ⟨l1, l2, l3⟩ := h.lt
  obtain ⟨k1, ⟨T, p, k2⟩, ⟨T', p', k3⟩⟩ := h
  refine ⟨?_, ⟨T, p, ?_⟩, ⟨T', p', ?_⟩⟩
  · unfold Tab Lib.TabIs World.var? at k1 ⊢
    rw [pow10_global] at k1 ⊢
    simp only [Option.bind_some] at k1 ⊢
    rw [hg.block _ l1 (Ne.symm h1)]
    exact k1
  · unfold World.cell? at k2 ⊢
    simp only at k2 ⊢
    rw [hg.block _ l2 (Ne.symm h2)]
    exact k2
  · unfold World.cell? at k3 ⊢
    simp only at k3 ⊢
    rw [hg.block _ l3 (Ne.symm h3)]
    exact k3
theorem Env.below {w w' : World} (h : Env w) (hb : Below w.heap.size w w') : Env w' := h.keep (grown_below hb none) (by simp) (by simp) (by simp)
def AtoiPost (w : World) (r : Lib.NumEnd Int) (e : Ending) (w' : World) : Prop :=
  Below w.heap.size w w' ∧ match r with | .ok v => e = .returned (.tuple #[.int .i64 v, .nilIface]) | _ => ∃ m T p, e = .returned (.tuple #[.int .i64 m, .iface T p])
theorem atoi_any (l : List UInt8) (w : World) (h : Env w) (hl : l.length ≤ lim) : Calls Tryd.prog 51 #[.string ⟨l.toArray⟩] w (AtoiPost w (Lib.atoiAll l)) := by
  obtain ⟨h1, ⟨T, p, h2⟩, ⟨T', p', h3⟩⟩ := h
  unfold lim at hl
  have hs : (⟨l.toArray⟩ : ByteArray).size = l.length := by simp [ByteArray.size]
  rcases hr : Lib.atoiAll l with v | _ | _
  · refine (Tryd.strconv_Atoi_ok ⟨l.toArray⟩ (by rw [hs]; omega) v hr w).mono ?_
    rintro e w' ⟨rfl, rfl | ⟨t, rfl⟩⟩
    · exact ⟨Below.refl _ _, rfl⟩
    · exact ⟨Lib.bytesWorld_below _ _ _, rfl⟩
  · refine (Tryd.strconv_Atoi_syntax ⟨l.toArray⟩ (by rw [hs]; omega) hr _ w h2 (.inr ⟨T, p, rfl⟩)).mono ?_
    rintro e w' ⟨N, rfl, -, -, hb⟩
    exact ⟨hb, _, _, _, rfl⟩
  · refine (Tryd.strconv_Atoi_range ⟨l.toArray⟩ (by rw [hs]; omega) hr _ w h3 (.inr ⟨T', p', rfl⟩)).mono ?_
    rintro e w' ⟨N, rfl, -, -, hb⟩
    exact ⟨hb, _, _, _, rfl⟩
/-- What 'element' hands back. -/
def ParsePost (w : World) (rk : Nat) (r : Option (Tg.Tree × Nat × List UInt8)) (e : Ending) (w' : World) : Prop :=
  w.grownBy w' (some rk) ∧ match r with
  | none => ∃ (c t : Int) (b : Bool) (va : Option Addr) (vn vc : Nat) (pa : Option Addr) (pn pc : Nat), e = .returned (.tuple #[.agg #[.int .u8 c, .int .u32 t, .bool b, .slice va vn vc, .slice pa pn pc], .bool false])
  | some (t, cnt, rest) => ∃ x, e = .returned (.tuple #[x, .bool true]) ∧ TreeR (fun k => w.heap.size ≤ k) w' t x ∧ RS w' rk rest cnt

end Go.Proofs.YthonjbaeadbhdaaDoor
