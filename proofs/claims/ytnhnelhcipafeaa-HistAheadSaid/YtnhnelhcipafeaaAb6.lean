/- Cutting, making, appending, copying: that the machine does the same. -/
import Derived.Test.YtnhnelhcipafeaaAb5
set_option linter.unusedSimpArgs false
set_option linter.unusedVariables false
namespace Go.Proofs.Ytnhnelhcipafeaa.Ab
open Go Go.RowKit

section
variable {G : Nat} {P : Program} {φ : Emb} {h : Heap} {w : World}

theorem OVR.isSome {a b : Option Value} (h : OVR φ a b) : a.isSome = b.isSome := by cases h <;> rfl
theorem aslice_ok {t : TypeId} (s : Sim G φ h w) {x x' v : Value} {lo hi mx lo' hi' mx' : Option Value} (hv : aslice P t x lo hi mx h = some v) (hx : VR φ x x') (hlo : OVR φ lo lo') (hhi : OVR φ hi hi') (hmx : OVR φ mx mx') :
    OpOk G P (Instr.slice t x' lo' hi' mx') φ h w v h := by
  unfold aslice at hv
  split at hv
  · rename_i s0
    split at hv
    case isFalse => cases hv
    rename_i ht
    obtain ⟨ht, rfl⟩ := ht
    have ht := isString_run ht
    have := hx.flat_inv rfl; subst this
    cases hmx
    simp only [Option.map_eq_some_iff] at hv
    obtain ⟨⟨l, u, m⟩, hb, rfl⟩ := hv
    obtain ⟨r, -⟩ := abnds_run (P := P) hb hlo hhi (.none (φ := φ)) (Nat.le_refl _) (Nat.le_refl _) false w
    exact .still s (v' := .string (s0.extract l u)) (by simp [Instr.slice, Sem.run_bind, run_underlying ht, r]) (.flt _ rfl)
  · rename_i id o n c
    split at hv
    case h_2 => cases hv
    rename_i g sz ht
    obtain ⟨e, h1, h2⟩ := tix_slice ht
    split at hv
    case h_2 => cases hv
    rename_i cc es k rw he
    split at hv
    case isFalse => cases hv
    rename_i hes
    split at hv
    case h_2 => cases hv
    rename_i l u m hb
    cases hv
    obtain ⟨a, c', lc, hl, rfl, hn, hc, ha⟩ := hx.slice_inv
    obtain ⟨q1, q2, -⟩ := s.cells he hl
    have hcc : (if c = unk then n else c) ≤ c' := by split <;> omega
    have hnc : n ≤ (if c = unk then n else c) := by split <;> omega
    obtain ⟨r, b1, b2, b3, b4⟩ := abnds_run (P := P) hb hlo hhi hmx hnc hcc true w
    have hm' : m ≤ (if mx.isSome then m else c') := by split <;> omega
    refine .still s (v' := .slice (some (if (if mx.isSome then m else c') = l then a else a.add (l * sz))) (u - l) ((if mx.isSome then m else c') - l)) ?_ ?_
    · simp only [Instr.slice, Sem.run_bind, run_underlying h1, r, Result.andThen_ok, (tin_run h2 w).2, Sem.run_pure]
      generalize (if mx.isSome = true then m else c') = M
      by_cases hM : M = l <;> simp [hM]
    · refine VR.slice _ _ _ _ _ _ _ hl (by omega) ?_ ?_
      · cases hms : mx with
        | some vm => simp
        | none =>
          have hmc := b4 hms
          simp only [Option.isSome_none, Bool.false_eq_true, if_false, Option.isNone_none, and_true]
          by_cases hu : c = unk
          · right; simp [hu]
          · left
            simp only [hu, if_false] at hmc ⊢
            rw [hmc, hc.resolve_right hu]
      · by_cases hz : (if mx.isSome then m else c') - l = 0
        · exact .inl hz
        · right
          have hne : ¬ (if mx.isSome then m else c') = l := by omega
          rw [if_neg hne]
          have hmle : (if mx.isSome then m else c') ≤ c' := by split <;> omega
          obtain ⟨rfl, room⟩ := ha.resolve_left (by omega)
          refine ⟨by rw [add_none]; rw [Nat.add_assoc], ?_⟩
          rcases room with ro | room
          · exact .inl ro
          · rcases hes.1 with e1 | e1
            · right
              rw [q1, e1] at room ⊢
              have : l * sz + ((if mx.isSome then m else c') - l) * sz = (if mx.isSome then m else c') * sz := by rw [← Nat.add_mul]; congr 1; omega
              have h2 : (if mx.isSome then m else c') * sz ≤ c' * sz := Nat.mul_le_mul_right _ hmle
              omega
            · left; rw [q2, e1]; rfl
  · split at hv
    case h_2 => cases hv
    rename_i g sz ht
    obtain ⟨e, h1, h2⟩ := tix_slice ht
    simp only [Option.map_eq_some_iff] at hv
    obtain ⟨⟨l, u, m⟩, hb, rfl⟩ := hv
    have := hx.flat_inv rfl; subst this
    obtain ⟨r, b1, b2, b3, b4⟩ := abnds_run (P := P) hb hlo hhi hmx (Nat.le_refl _) (Nat.le_refl _) true w
    have hl0 : l = 0 := by omega
    have hu0 : u = 0 := by omega
    have hm0 : m = 0 := by omega
    subst hl0 hu0 hm0
    refine .still s (v' := .slice none 0 0) ?_ (.flt _ rfl)
    simp only [Instr.slice, Sem.run_bind, run_underlying h1, r, Result.andThen_ok, (tin_run h2 w).2, Sem.run_pure]
    cases mx <;> rfl
  · cases hv

/-! ### length -/
def alen (P : Program) (t : TypeId) (x : Value) : Option Value :=
  match P.underlying t, x with
  | some .string, .string s => some (.int .i64 s.size)
  | some (.slice _), .slice (some ⟨_, _, none⟩) n _ => some (.int .i64 n)
  | some (.slice _), .slice none 0 0 => some (.int .i64 0)
  | some (.array n _), _ => some (.int .i64 n)
  | _, _ => none
theorem alen_ok {t : TypeId} {ts : Array TypeId} {ty : TypeId} (ht : ts[0]? = some t) (s : Sim G φ h w) {x v : Value} {args : Array Value} (hv : alen P t x = some v) {x' : Value} (ha : args[0]? = some x') (hx : VR φ x x') : OpOk G P (Builtin.len_ ts ty args) φ h w v h := by
  unfold alen at hv
  split at hv
  · rename_i s0 hu
    cases hv
    have := hx.flat_inv rfl; subst this
    exact .still s (v' := .int .i64 s0.size) (by simp [Builtin.len_, ht, ha, Sem.run_bind, run_underlying hu, goInt]) (.flt _ rfl)
  · rename_i id o n c hu
    cases hv
    obtain ⟨a, c', l, hl, rfl, hn, hc, ha'⟩ := hx.slice_inv
    exact .still s (v' := .int .i64 n) (by simp [Builtin.len_, ht, ha, Sem.run_bind, run_underlying hu, goInt]) (.flt _ rfl)
  · rename_i hu
    cases hv
    have := hx.flat_inv rfl; subst this
    exact .still s (v' := .int .i64 0) (by simp [Builtin.len_, ht, ha, Sem.run_bind, run_underlying hu, goInt]) (.flt _ rfl)
  · rename_i n _ hu
    cases hv
    exact .still s (v' := .int .i64 n) (by simp [Builtin.len_, ht, ha, Sem.run_bind, run_underlying hu, goInt]) (.flt _ rfl)
  · cases hv

/-! ### making -/
def amake (k : Nat × Nat × List Value) (len cap : Value) (h : Heap) : Option (Value × Heap) :=
  match len, cap with
  | .int _ l, .int _ c => if 0 ≤ l ∧ l ≤ c ∧ c ≤ 1073741824 ∧ k.2.1 ≤ 65536 then
      some (.slice (some ⟨h.length, 0, none⟩) l.toNat c.toNat, h ++ [.cells (List.replicate c.toNat k.2.2).flatten k.1 none true]) else none
  | _, _ => none
theorem wrap_i64 {c : Int} (h0 : 0 ≤ c) (h1 : c ≤ 9223372036854775807) : IntKind.i64.wrap c = c := by
  have := IntKind.wrap_i64 c
  first | (rw [this]; unfold wrap64; omega) | omega
theorem amake_ok {t : TypeId} {k : Nat × Nat × List Value} (ht : tslice P t = some k) (s : Sim G φ h w) {l c l' c' v : Value} {h' : Heap} (hv : amake k l c h = some (v, h')) (hl : VR φ l l') (hc : VR φ c c') : OpOk G P (Instr.makeSlice t l' c') φ h w v h' := by
  obtain ⟨n, b, z⟩ := k
  obtain ⟨e, h1, h2⟩ := tslice_run ht
  obtain ⟨q1, ⟨i, qi, qb, qn⟩, ⟨zv, q2, q3, q4⟩, q5, q6⟩ := telem_run h2 w
  unfold amake at hv
  split at hv
  case h_2 => cases hv
  rename_i _ _ _ l _ c
  split at hv
  case isFalse => cases hv
  rename_i hb
  obtain ⟨b1, b2, b3, b4⟩ := hb
  cases hv
  have := hl.int_inv; subst this
  have := hc.int_inv; subst this
  have hzs : zv.cells.size = n := by rw [← q5, ← q3]; simp
  have hmul : (b : Int) * c ≤ 2 ^ 48 := by
    have : (b : Int) * c ≤ 65536 * 1073741824 := Int.mul_le_mul (by simpa using Int.ofNat_le.2 b4) b3 (by omega) (by omega)
    omega
  have hcell : (if c.toNat * n = 0 then (#[] : Array Value) else (Array.range (c.toNat * n)).map fun i => zv.cells[i % zv.cells.size]!).toList = (List.replicate c.toNat z).flatten := by
    by_cases h0 : c.toNat * n = 0
    · rw [if_pos h0]
      have : ((List.replicate c.toNat z).flatten).length = 0 := by rw [flatten_length, q5]; exact h0
      exact (List.length_eq_zero_iff.1 this).symm
    · rw [if_neg h0, ← hzs, zeros_eq, q3]
  refine ⟨.slice (some ⟨w.heap.size, 0, none⟩) l.toNat c.toNat, w.alloc (.cells (if c.toNat * n = 0 then (#[] : Array Value) else (Array.range (c.toNat * n)).map fun i => zv.cells[i % zv.cells.size]!) e (0, 0)), _, ?_, ?_, post_cells s _ _ e n none (fun _ e => by cases e) ?_ fun j v hj => ?_⟩
  · simp only [Instr.makeSlice, Sem.run_bind, run_underlying h1, Result.andThen_ok, asInt, asIntOf, Sem.run_pure, typeInfo, run_program, qi, qb, wrap_i64 (show 0 ≤ l by omega) (by omega), wrap_i64 (show 0 ≤ c by omega) (by omega)]
    have hn1 : (decide (c < 0) || decide ((b : Int) * c > 2 ^ 48)) = false := by simp; omega
    have hn2 : decide (l < 0) = false := by simp; omega
    have hn3 : decide (l > c) = false := by simp; omega
    simp only [hn1, hn2, hn3, Bool.or_self, Bool.false_eq_true, if_false]
    simp only [Sem.run_bind, askRoom]
    have hask : ((if c.toNat * b > roomBytes then mark .noRoom else pure () : Sem Unit)).run P w = .ok () w := by split <;> rfl
    simp only [Sem.run_pure, Result.andThen_ok, hask, q1]
    by_cases h0 : c.toNat * n = 0
    · simp only [h0, if_true, Sem.run_pure, Result.andThen_ok]
      simp [Array.range]; rfl
    · simp only [h0, if_false, Sem.run_bind, q2, Result.andThen_ok, Sem.run_pure]
      rfl
  · refine VR.slice _ 0 _ _ _ _ _ (Emb.upd_same _ _ _) (by omega) (.inl rfl) (.inr ⟨by simp, .inr ?_⟩)
    have := congrArg List.length hcell
    rw [flatten_length, q5, Array.length_toList] at this
    simp only; omega
  · rw [← hcell]; simp
  · rw [← hcell] at hj
    rw [Array.getElem?_toList] at hj
    refine ⟨v, hj, VR.flat1_self ?_⟩
    rw [List.all_eq_true] at q6
    have hm : v ∈ (List.replicate c.toNat z).flatten := by rw [← hcell]; exact List.mem_of_getElem? (by rw [Array.getElem?_toList]; exact hj)
    rw [List.mem_flatten] at hm
    obtain ⟨zz, hz, hx⟩ := hm
    rw [List.mem_replicate] at hz
    rw [hz.2] at hx
    exact q6 v hx

end
end Go.Proofs.Ytnhnelhcipafeaa.Ab
