/- What comes in: bytes; the listed variables; a start for the witness. -/
import Derived.Test.YthonjbaeadbhdaaDoorLawKit
import Derived.Test.YthonjbaeadbhdaaDoorBufs
import Derived.Test.YthonjbaeadbhdaaDoorTagsCheck
import Derived.LaidMore
import Derived.Deep.DeepWitnessRowRef
namespace Go.Proofs.YthonjbaeadbhdaaDoor
open Go.ChangeShapes Go.WideShapes Go.ChangeAt Go.RowKit

/-- A slice of bytes that comes in. -/
theorem bytes_trodP {P : Program} {ts te : TypeId} (hts : P.underlying ts = some (.slice te)) (hte : P.underlying te = some (.int .u8)) (hce : P.cellsOf te = 1) (hbe : P.bytesOf te = 1) {H : Type} {enc : TypeId × Value → H} {W : World} {v : Value} {d : DataW H} {p : List MemPlace} {fuel : Nat}
    (hf : DataW.trod enc P W 0 (fun _ => true) true fuel ts [v] = some (d, p))
    (hw : (d.weights P ts).all (· ≤ reachBytes) = true) : ∃ l, BytesR AnyB W v l := by
  rcases open_ints hts hte hce hf with ⟨hc, hx⟩ | ⟨ad, len, cap, zs, hc, -, hl, -, hz, hx, hcell, hwz⟩
  · injection hc with hc _
    subst hc
    exact ⟨[], none, 0, rfl, Nat.le_refl _, by simp, .inl rfl⟩
  · injection hc with hc _
    subst hc
    obtain ⟨n, rfl⟩ : ∃ n, n = len := ⟨_, rfl⟩
    obtain ⟨c, rfl⟩ : ∃ n, n = cap := ⟨_, rfl⟩
    simp only [if_true] at hz
    have hd : d = .slice (lits .u8 (zs.take n)) (lits .u8 (zs.drop n)) := congrArg Prod.fst hx
    rw [hd] at hw
    have hlim : n ≤ lim := by
      unfold DataW.weights at hw
      rw [hts] at hw
      simp only [List.all_cons, Bool.and_eq_true, decide_eq_true_eq, hbe] at hw
      have h1 := hw.1
      have h2 : (lits (H := H) IntKind.u8 (zs.take n)).length = n := by simp [lits]; omega
      rw [h2] at h1
      unfold lim
      have : reachBytes = 140737488351232 := rfl
      omega
    have hb : ∀ z ∈ zs, 0 ≤ z ∧ z < 256 := fun z hz => by
      have := hwz z hz
      simp only [Lit.wf, Bool.and_eq_true, decide_eq_true_eq] at this
      have h1 : IntKind.u8.min = 0 := rfl
      have h2 : IntKind.u8.max = 255 := rfl
      omega
    have hlen : ((zs.take n).map fun z => UInt8.ofNat z.toNat).length = n := by simp; omega
    refine ⟨(zs.take n).map fun z => UInt8.ofNat z.toNat, some ad, c, by rw [hlen], by rw [hlen]; exact hl, by rw [hlen]; exact hlim, ?_⟩
    cases n with
    | zero => exact .inl (by simp [bvs])
    | succ n =>
      right
      have h0 := hcell 0 (by omega)
      have hsp : ad.spot = none := by
        have e : ad.add 0 = ad := by simp [Addr.add]
        rw [e] at h0
        unfold World.cell? at h0
        split at h0
        · split at h0
          · cases h0
          · rename_i hs
            cases hsp : ad.spot with
            | none => rfl
            | some _ => rw [hsp] at hs; simp at hs
        · cases h0
      obtain ⟨g, o, sp⟩ := ad
      simp only at hsp
      subst hsp
      refine ⟨g, o, rfl, trivial, fun j u hu => ?_⟩
      have hj : j < n + 1 := by
        have := (List.getElem?_eq_some_iff.1 hu).1
        rwa [bvs_length, hlen] at this
      have hcj := hcell j (by omega)
      have e : (⟨g, o, none⟩ : Addr).add j = ⟨g, o + j, none⟩ := by unfold Addr.add; split <;> simp_all
      rw [e] at hcj
      rw [hcj, ← hu]
      have hjz : j < zs.length := by omega
      have hbj := hb zs[j] (List.getElem_mem hjz)
      have hgd : zs.getD j 0 = zs[j] := by simp [hjz]
      rw [hgd]
      simp only [bvs, List.map_map, List.getElem?_map, List.getElem?_take, if_pos hj, List.getElem?_eq_getElem hjz, Option.map_some, Function.comp, bv]
      congr 2
      rw [UInt8.toNat_ofNat', Nat.mod_eq_of_lt (by omega)]
      omega

theorem bytes_argP {P : Program} {ts te : TypeId} (hts : P.underlying ts = some (.slice te)) (hte : P.underlying te = some (.int .u8)) (hce : P.cellsOf te = 1) (hbe : P.bytesOf te = 1) {H : Type} {enc : TypeId × Value → H} {W : World} {base : Nat} {v : Value} {d : DataW H} {p : List MemPlace}
    (h : DataW.Trod enc P W 0 (fun _ => true) true ts v d p) (hval : Value.okWide P W .any base ts v)
    (hw : (d.weights P ts).all (· ≤ reachBytes) = true) : ∃ l, BytesR AnyB W v l := by
  obtain ⟨a, n, c, rfl⟩ := okWide_slice hts hval
  obtain ⟨fuel, hf⟩ := h
  exact bytes_trodP hts hte hce hbe hf hw
set_option maxRecDepth 100000 in
theorem bytes_arg {H : Type} {enc : TypeId × Value → H} {W : World} {base : Nat} {v : Value} {d : DataW H} {p : List MemPlace}
    (h : DataW.Trod enc Tryd.prog W 0 (fun _ => true) true 22 v d p) (hval : Value.okWide Tryd.prog W .any base 22 v)
    (hw : (d.weights Tryd.prog 22).all (· ≤ reachBytes) = true) : ∃ l, BytesR AnyB W v l :=
  bytes_argP Tryd.underlying22 Tryd.underlying5 (by kernel_rfl) (by kernel_rfl) h hval hw


set_option maxRecDepth 100000 in
theorem es_row (u : TypeId) (h : Tryd.prog.typeName? 3 u = some "*errors.errorString") : u = 149 :=
  typeName_ptr_named (P := Tryd.prog) (nm := "errors.errorString") (tp := 149) (by kernel_rfl) (by kernel_rfl) (by decide) u h
theorem gRange : Tryd.prog.globalNamed "strconv.ErrRange" = some 3 := by kernel_rfl
theorem gSyntax : Tryd.prog.globalNamed "strconv.ErrSyntax" = some 2 := by kernel_rfl
theorem gPow : Tryd.prog.globalNamed "internal/strconv.uint64pow10" = some 0 := by kernel_rfl
theorem gRangeT : (Tryd.prog.globals[3]?).map (·.type) = some 76 := by kernel_rfl
theorem gSyntaxT : (Tryd.prog.globals[2]?).map (·.type) = some 76 := by kernel_rfl
theorem gPowT : (Tryd.prog.globals[0]?).map (·.type) = some 137 := by kernel_rfl
theorem cES : Tryd.prog.cellsOf 151 = 1 := by kernel_rfl
theorem cS : Tryd.prog.cellsOf 9 = 1 := by kernel_rfl
theorem cU : Tryd.prog.cellsOf 124 = 1 := by kernel_rfl
theorem cP : Tryd.prog.cellsOf 137 = 20 := by kernel_rfl

set_option maxRecDepth 100000 in
/-- What the row's list gives. -/
theorem env_laid {W : World} (h : laidMet Tryd.prog Rows.tagsIntsRow.laid W) : Env W := by
  have h3 := h.tail.tail
  have hT : Tab W := Lib.tabIs_of_head gPow gPowT Tryd.underlying137 Tryd.underlying124 cU cP h3
  obtain ⟨a, _, hv, -⟩ := laid_sentinel h3.tail gRange gRangeT Tryd.underlying76 es_row Tryd.underlying149 Tryd.underlying151 rfl rfl Tryd.underlying9 cES cS
  obtain ⟨a', _, hv', -⟩ := laid_sentinel h3.tail.tail gSyntax gSyntaxT Tryd.underlying76 es_row Tryd.underlying149 Tryd.underlying151 rfl rfl Tryd.underlying9 cES cS
  have c1 := World.var?_cell gRange hv 0
  have c2 := World.var?_cell gSyntax hv' 0
  exact ⟨hT, ⟨_, _, c2⟩, ⟨_, _, c1⟩⟩
end Go.Proofs.YthonjbaeadbhdaaDoor
