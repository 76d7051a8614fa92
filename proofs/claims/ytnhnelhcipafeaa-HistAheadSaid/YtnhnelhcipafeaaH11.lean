/- The law 'being ahead' holds of every input, as its row says it; no condition. -/
import Derived.Test.YtnhnelhcipafeaaRows
import Derived.Test.YtnhnelhcipafeaaH10
import Derived.Test.YtnhnelhcipafeaaAb20
set_option linter.unusedSimpArgs false
set_option linter.unusedVariables false
namespace Go.Proofs.Ytnhnelhcipafeaa
open Go Go.RowKit Go.ChangeShapes Go.WideShapes Go.Proofs Go.Proofs.Ytnhnelhcipafeaa.Ab

theorem kinds_41 : flatKinds Try.prog 64 41 = some [.bool, .int .i64, .int .i64, .str, .str, .str, .int .i64, .int .i64, .bool, .str, .str, .int .i64] := by kernel_rfl
theorem kinds_29 : flatKinds Try.prog 64 29 = some [.int .i64, .int .i64, .str, .str, .str, .int .i64, .int .i64, .bool, .str, .str, .int .i64, .bool, .int .i64, .int .i64] := by kernel_rfl
theorem ev_of {cs : List Value} (h : Shape [.bool, .int .i64, .int .i64, .str, .str, .str, .int .i64, .int .i64, .bool, .str, .str, .int .i64] cs) : ∃ e : EvT, cs = e.cells := by
  obtain ⟨y0, cs, rfl, h0⟩ := h.bool_inv
  obtain ⟨y1, cs, rfl, w1, h1⟩ := h0.int_inv
  obtain ⟨y2, cs, rfl, w2, h2⟩ := h1.int_inv
  obtain ⟨y3, cs, rfl, w3, h3⟩ := h2.str_inv
  obtain ⟨y4, cs, rfl, w4, h4⟩ := h3.str_inv
  obtain ⟨y5, cs, rfl, w5, h5⟩ := h4.str_inv
  obtain ⟨y6, cs, rfl, w6, h6⟩ := h5.int_inv
  obtain ⟨y7, cs, rfl, w7, h7⟩ := h6.int_inv
  obtain ⟨y8, cs, rfl, h8⟩ := h7.bool_inv
  obtain ⟨y9, cs, rfl, w9, h9⟩ := h8.str_inv
  obtain ⟨y10, cs, rfl, w10, h10⟩ := h9.str_inv
  obtain ⟨y11, cs, rfl, w11, h11⟩ := h10.int_inv
  obtain rfl := h11.nil_inv
  exact ⟨⟨y0, y1, ⟨y2, y3, y4, y5, y6⟩, ⟨y7, y8, y9, y10, y11⟩⟩, rfl⟩
theorem op_of {cs : List Value} (h : Shape [.int .i64, .int .i64, .str, .str, .str, .int .i64, .int .i64, .bool, .str, .str, .int .i64, .bool, .int .i64, .int .i64] cs) : ∃ e : OpT, cs = e.cells := by
  obtain ⟨y0, cs, rfl, w0, h0⟩ := h.int_inv
  obtain ⟨y1, cs, rfl, w1, h1⟩ := h0.int_inv
  obtain ⟨y2, cs, rfl, w2, h2⟩ := h1.str_inv
  obtain ⟨y3, cs, rfl, w3, h3⟩ := h2.str_inv
  obtain ⟨y4, cs, rfl, w4, h4⟩ := h3.str_inv
  obtain ⟨y5, cs, rfl, w5, h5⟩ := h4.int_inv
  obtain ⟨y6, cs, rfl, w6, h6⟩ := h5.int_inv
  obtain ⟨y7, cs, rfl, h7⟩ := h6.bool_inv
  obtain ⟨y8, cs, rfl, w8, h8⟩ := h7.str_inv
  obtain ⟨y9, cs, rfl, w9, h9⟩ := h8.str_inv
  obtain ⟨y10, cs, rfl, w10, h10⟩ := h9.int_inv
  obtain ⟨y11, cs, rfl, h11⟩ := h10.bool_inv
  obtain ⟨y12, cs, rfl, w12, h12⟩ := h11.int_inv
  obtain ⟨y13, cs, rfl, w13, h13⟩ := h12.int_inv
  obtain rfl := h13.nil_inv
  exact ⟨⟨y0, ⟨y1, y2, y3, y4, y5⟩, ⟨y6, y7, y8, y9, y10⟩, y11, y12, y13⟩, rfl⟩
theorem evs_of : ∀ {L : List (List Value)}, (∀ c ∈ L, Shape [.bool, .int .i64, .int .i64, .str, .str, .str, .int .i64, .int .i64, .bool, .str, .str, .int .i64] c) → ∃ E : List EvT, L = E.map EvT.cells
  | [], _ => ⟨[], rfl⟩
  | c :: L, h => by
    obtain ⟨e, rfl⟩ := ev_of (h c (by simp))
    obtain ⟨E, rfl⟩ := evs_of (L := L) fun c hc => h c (by simp [hc])
    exact ⟨e :: E, rfl⟩
theorem own_ : ownKnob Try.prog.godebug = none := by kernel_rfl
theorem laidOut_ : laidOutB Try.prog = true := by kernel_rfl
theorem under_4b : Try.prog.underlying 4 = some .bool := by kernel_rfl
theorem under_29s : ∃ fs, Try.prog.underlying 29 = some (.struct fs) := isStruct_of (by kernel_rfl)
theorem law_at {H : Type} {enc : TypeId × Value → H} (W : World) (base : Nat) (args : Array Value) (ds gs : List (DataW H)) (before : List MemPlace)
    (hval : ∀ (j : Nat) t v, Try.f3.params[j]? = some t → args[j]? = some v → Value.okWide Try.prog W .any base t v)
    (hW : DataW.Whole enc Try.prog Try.f3.params.toList Rows.histAheadSpec.vars false W args.toList ds gs before) :
    Calls Try.prog 3 args W fun e W' => ∃ v, e = .returned v ∧ Rows.histAheadSpec.post enc Try.prog Try.f3 false true false false W args v W' := by
  have hW' := hW
  obtain ⟨p, q, hA0, hV, rfl, hfz, hnd⟩ := hW
  have hA : DataW.TrodAll enc Try.prog W 0 (fun _ => true) true Try.f3.params.toList args.toList ds p := hA0
  rw [Try.params3] at hA hval
  obtain ⟨v0, v1, v2, d0, d1, d2, p0, p1, p2, rfl, rfl, -, h0, h1, h2⟩ := trodAll_three hA
  obtain ⟨fs, hfs⟩ := under_29s
  obtain ⟨c1, rfl, s1⟩ := open_flat hfs kinds_29 (hval 1 29 v1 rfl rfl) h1
  obtain ⟨c2, rfl, s2⟩ := open_flat hfs kinds_29 (hval 2 29 v2 rfl rfl) h2
  obtain ⟨a, rfl⟩ := op_of s1
  obtain ⟨b, rfl⟩ := op_of s2
  have hpar : ∀ t ∈ Try.f3.params.toList, Try.prog.readableRec t = true ∧ t < Try.prog.types.size := by
    rw [Try.params3]
    intro t ht
    simp only [List.mem_cons, List.not_mem_nil, or_false] at ht
    rcases ht with rfl | rfl | rfl <;> exact ⟨by kernel_rfl, of_decide_eq_true (by kernel_rfl)⟩
  have hres : Try.f3.resultTypes = #[4] := by kernel_rfl
  have hagg : ∀ (φ : Emb) (o : OpT), VR φ (.agg o.cells.toArray) (.agg o.cells.toArray) := fun φ o => .agg _ _ (VRs.self_flat _ (by rfl))
  rcases open_flats under_22 kinds_41 (by kernel_rfl) (hval 0 22 v0 rfl rfl) h0 with rfl | ⟨bl, o, cap, L, C, T, fr, rfl, hle, hsh, hC, hcell⟩
  · obtain ⟨φ, hsim⟩ := sim_none W
    exact law_calls_post rfl laidOut_ hpar hres under_4b rfl hW' hsim (.cons _ _ _ _ (.flt _ rfl) (.cons _ _ _ _ (hagg _ a) (.cons _ _ _ _ (hagg _ b) .nil))) (by intro id o ho; simp at ho)
      (law_calls 0 [] (.slice none 0 0) [] (.inl ⟨rfl, rfl⟩) a b)
  · obtain ⟨E, rfl⟩ := evs_of hsh
    have hflat : (E.map EvT.cells).flatten.all Ab.flat = true := by
      rw [List.all_eq_true]
      intro v hv
      obtain ⟨c, hc, hvc⟩ := List.mem_flatten.1 hv
      exact List.all_eq_true.1 (hsh c hc).flat v hvc
    obtain ⟨φ, hsim, hvr⟩ := sim_row 12 hC hcell hflat hle
    refine law_calls_post rfl laidOut_ hpar hres under_4b rfl hW' hsim (.cons _ _ _ _ hvr (.cons _ _ _ _ (hagg _ a) (.cons _ _ _ _ (hagg _ b) .nil))) ?_
      (law_calls 0 _ _ E (.inr ⟨0, 0, unk, _, 12, none, false, by rw [List.length_map], rfl, ?_, ?_, .inl rfl, .inl rfl⟩) a b)
    · intro id x hx
      cases id with
      | zero => cases hx; rfl
      | succ n => simp at hx
    · rw [← List.flatMap_def, flatMap_len evLen]; omega
    · rw [List.drop_zero, ← List.flatMap_def, List.take_of_length_le (by rw [flatMap_len evLen]; exact Nat.le_refl _)]
set_option maxRecDepth 100000 in
theorem lifted_ (os : Os) (started : os.Started) (H : Type) (enc : TypeId × Value → H) :
    ReturnsInHanded {} Try.checked os 3 .any (Rows.histAheadSpec.pre6 enc Try.prog Try.f3 Rows.histAheadRow.domain false) (Rows.histAheadSpec.post enc Try.prog Try.f3 false true false false) :=
  returnsInHanded_of_change_sized (C := Try.checked) own_ started (by kernel_rfl) Try.func3
    (ChangeSpec.witness6 (enc := enc) (C := Try.checked) false ⟨#[], #[.slice none 0 0, .agg #[.int .i64 0, .int .i64 0, .string ByteArray.empty, .string ByteArray.empty, .string ByteArray.empty, .int .i64 0, .int .i64 0, .bool false, .string ByteArray.empty, .string ByteArray.empty, .int .i64 0, .bool false, .int .i64 0, .int .i64 0], .agg #[.int .i64 0, .int .i64 0, .string ByteArray.empty, .string ByteArray.empty, .string ByteArray.empty, .int .i64 0, .int .i64 0, .bool false, .string ByteArray.empty, .string ByteArray.empty, .int .i64 0, .bool false, .int .i64 0, .int .i64 0]], []⟩ 8 (by kernel_rfl) (by kernel_rfl) (by kernel_rfl) (by kernel_rfl))
    fun W base args ds gs before hval hW _ _ _ => law_at W base args ds gs before hval hW
theorem over_ : Rows.histAheadRow.holds Try.pinned (OpenSpec.ofChange Rows.histAheadSpec) :=
  OpenClaim.holds_of_wide 3 Try.f3 rfl rfl rfl rfl rfl rfl rfl ⟨rfl, rfl, rfl, rfl, rfl⟩ rfl rfl rfl rfl rfl (by kernel_rfl) Try.func3 (by kernel_rfl)
    (of_decide_eq_true (by kernel_rfl)) (by unfold Func.isWrapper; first | (rw [if_pos (by decide +kernel)]; kernel_rfl) | (rw [if_neg (by decide +kernel)]; exact ⟨rfl, rfl⟩))
    (fun os started H enc _ => lifted_ os started H enc)
theorem histAhead_holds : Rows.HistAheadSaid := over_
#print axioms histAhead_holds
end Go.Proofs.Ytnhnelhcipafeaa
