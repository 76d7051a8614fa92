/- A history's events: the reader. -/
import Derived.Test.YtnhnelhcipafeaaH1
set_option linter.unusedSimpArgs false
set_option linter.unusedVariables false
namespace Go.Proofs.Ytnhnelhcipafeaa.Ab
open Go Go.RowKit Go.Proofs

def ent (p : Int × Int × Nat) : MapEntry := ⟨.int .i64 p.1, .int .i64 p.2.1, p.2.2⟩
def mfind : List (Int × Int × Nat) → Int → Nat → Option (Nat × Int)
  | [], _, _ => none
  | p :: r, t, i => if p.1 = t then some (i, p.2.1) else mfind r t (i + 1)
theorem findNow_ent (t : Int) : ∀ (m : List (Int × Int × Nat)) (i : Nat), Instr.findNow (.int .i64) (.int .i64 t) (m.map ent) i = some ((mfind m t i).map fun q => (q.1, .int .i64 q.2))
  | [], i => rfl
  | p :: r, i => by
    simp only [List.map_cons, Instr.findNow, mfind]
    have : Instr.sameNow (.int .i64) (.int .i64 t) (ent p).key = some (t == p.1) := rfl
    rw [this]
    by_cases e : p.1 = t
    · simp [e, ent]
    · have e' : ¬ t = p.1 := fun x => e x.symm
      have e3 : (t == p.1) = false := by simpa using e'
      simp only [e3, findNow_ent t r (i + 1), if_neg e]

def CallT.eqb (a b : CallT) : Bool := a.op == b.op && (a.key == b.key && (a.val == b.val && (a.old == b.old && (a.h == b.h && true))))
theorem call_neq (X Y : Operand) (a b : CallT) : abin Try.prog .neq 24 X Y (.agg (a.cells).toArray) (.agg (b.cells).toArray) = some (.bool (!(a.eqb b))) := by
  unfold CallT.eqb
  kernel_rfl
def AnsT.zb (a : AnsT) : Bool := a.code == 0 && (a.has == false && (a.key == ⟨#[]⟩ && (a.val == ⟨#[]⟩ && (a.n == 0 && true))))
theorem ans_neq (X Y : Operand) (a : AnsT) : abin Try.prog .neq 27 X Y (.agg (a.cells).toArray) (.agg (#[.int .i64 0, .bool false, .string ⟨#[]⟩, .string ⟨#[]⟩, .int .i64 0])) = some (.bool (!(a.zb))) := by
  unfold AnsT.zb
  kernel_rfl
theorem bool_neq (X Y : Operand) (a b : Bool) : abin Try.prog .neq 4 X Y (.bool a) (.bool b) = some (.bool (!(a == b))) := by kernel_rfl

structure RS where
  L : List OpT
  m : List (Int × Int × Nat)
  ck : Nat
def RS.ok (s : RS) : Prop := ∀ p, p ∈ s.m → 0 ≤ p.2.1 ∧ p.2.1 < s.L.length
def AnsT.zero : AnsT := ⟨0, false, ⟨#[]⟩, ⟨#[]⟩, 0⟩
def rev (many at_ : Int) (e : EvT) (s : RS) : Int × RS :=
  if e.t < 0 ∨ 64 ≤ e.t then (2, s) else
  match mfind s.m e.t 0 with
  | none => if e.res then (4, s) else if e.a.zb then (0, ⟨s.L ++ [OpT.mk e.t e.c .zero false at_ many], s.m ++ [(e.t, (s.L.length : Int), s.ck)], s.ck + 1⟩) else (4, s)
  | some (j, i) => if e.res then
      match s.L[i.toNat]? with
      | some x => if x.c.eqb e.c then (0, ⟨s.L.set i.toNat { x with a := e.a, done := true, to := at_ }, s.m.eraseIdx j, s.ck⟩) else (4, s)
      | none => (4, s)
    else (4, s)

abbrev OpsAt (h : Heap) (B : Nat) (v : Value) (L : List OpT) : Prop := RowAt OpT.cells 14 h B v L
theorem cells14 (x : OpT) : x.cells.length = 14 := rfl
theorem cellsOk (x : OpT) : x.cells.all okCell = true := rfl
theorem map_erase {α β : Type} (f : α → β) : ∀ (l : List α) (i : Nat), (l.map f).eraseIdx i = (l.eraseIdx i).map f
  | [], i => by simp
  | x :: r, 0 => by simp
  | x :: r, i + 1 => by simp [map_erase f r i]
theorem append_35 (v x : Value) (h : Heap) : abuiltin Try.prog .append #[35, 35] [v, x] h = aappend (14, 152, [.int .i64 0, .int .i64 0, .string ⟨#[]⟩, .string ⟨#[]⟩, .string ⟨#[]⟩, .int .i64 0, .int .i64 0, .bool false, .string ⟨#[]⟩, .string ⟨#[]⟩, .int .i64 0, .bool false, .int .i64 0, .int .i64 0]) v x h := by
  simp only [abuiltin, List.getElem?_toArray, List.getElem?_cons_zero, List.getElem?_cons_succ, tslice_35, notInt_35, if_true]
theorem mfind_mem : ∀ (m : List (Int × Int × Nat)) (t : Int) (i j : Nat) (v : Int), mfind m t i = some (j, v) → ∃ p, p ∈ m ∧ p.2.1 = v
  | [], _, _, _, _, h => by simp [mfind] at h
  | p :: r, t, i, j, v, h => by
    simp only [mfind] at h
    split at h
    · cases h; exact ⟨p, by simp, rfl⟩
    · obtain ⟨q, a, b⟩ := mfind_mem r t (i + 1) j v h
      exact ⟨q, by simp [a], b⟩
structure RAt (h : Heap) (B idr idm : Nat) (many : Int) (s : RS) : Prop where
  ok : s.ok
  br : B ≤ idr
  bm : B ≤ idm
  rd : ∃ v, h[idr]? = some (.cells [v, .map (some idm), .int .i64 many] 0 none true) ∧ OpsAt h B v s.L
  mp : h[idm]? = some (.map (s.m.map ent) s.ck)
theorem RAt.keep {h h' : Heap} {B idr idm : Nat} {many : Int} {s : RS} (r : RAt h B idr idm many s) (k : ∀ (i : Nat) (o : AObj), h[i]? = some o → h'[i]? = some o) : RAt h' B idr idm many s := by
  obtain ⟨v, h1, h2⟩ := r.rd
  refine ⟨r.ok, r.br, r.bm, ⟨v, k _ _ h1, ?_⟩, k _ _ r.mp⟩
  rcases h2 with h2 | ⟨id, q, a, b, c, d⟩
  · exact .inl h2
  · exact .inr ⟨id, q, a, b, k _ _ c, d⟩

theorem event_bad (G : Nat) (h : Heap) (at_ many : Int) (e : EvT) (idr : Nat) (s : RS) (hb : e.t < 0 ∨ 64 ≤ e.t) : Does G Try.prog 15 [.pointer (some ⟨idr, 0, none⟩), .int .i64 at_, .agg e.cells.toArray] h fun r h' => r = .int .i64 2 ∧ h' = h := by
  refine Does.drop rfl ?_
  refine Does.walk S15 mixed (by kernel_rfl) Try.func15 strip15 (by kernel_rfl) (by kernel_rfl) ?_
  unfold S15
  by_cases h0 : e.t < 0
  · simp -dsimp only [srun_seq, srun_reg, srun_draw, srun_ret, srun_skip, srun_cond, srun_block, srun_exit, srun_loop, sops_nil, sops_cons, sdr_nil, sdr_cons, sstep_call, sstep_op, fork_true, fork_false, sif_true, sif_false, aseq_normal, aseq_ret, aseq_exit, ablock_normal, ablock_ret, ablock_same, ablock_other, aend_ret, aend_normal, holdsVT_some, holdsT_some, dstep_call, dstep_0, dstep_1, dstep_2, dskip_0, dskip_1, dskip_2, pendOk_nil, pendOk_cons, pastOk_nil, pastOk_zero, pastOk_succ, ocls, fwanted, isUndef, Array.isEmpty, isUndef, acall, aop, fev, fset, upd_same, upd_ne, tget_zero, tget_succ, tget_nil, Nat.reduceBEq, fres, fresL, fres1, abox, anew, acells, afieldAddr, aload_ptr, aloadAt, get_app, get_app0, List.cons_append, List.nil_append, List.append_assoc, List.length_append, List.length_cons, List.length_nil, Nat.reduceSub, Nat.reduceAdd, List.set_cons_zero, List.set_cons_succ, List.getElem?_cons_zero, List.getElem?_cons_succ, deepFlat, flat1, flat, if_true, Option.map_some, Option.bind_some, Bool.false_eq_true, if_false, Nat.zero_add, beq_self_eq_true, Array.getElem?_toList, List.getElem?_toArray, false_implies, true_implies, and_true, true_and, b_true, b_false, Bool.not_true, Bool.not_false, reduceIte, Bool.true_and, Bool.false_and, Bool.and_true, Bool.and_false, get_app, get_app0, set_app, set_app0, astore, astores_eqN, astoreN, okCell, aput, List.all_cons, List.all_nil, afill, abuild, apart, afield, aextract, List.drop_zero, List.drop_succ_cons, List.drop_nil, List.take_zero, List.take_succ_cons, List.take_nil, List.map_cons, List.map_nil, List.length_set, List.size_toArray, Bool.and_self, and_self, Nat.add_le_add_iff_left, Nat.le_refl, Nat.reduceLeDiff, Nat.reduceLT, ne_eq, not_true_eq_false, not_false_eq_true, or_self, Option.map_none, Option.bind_none, Bool.and_eq_true, List.cons_ne_nil, gt_iff_lt, or_false, false_or, Nat.lt_irrefl, Nat.reduceEqDiff, acall, Nat.add_zero, List.replicate, List.flatten_cons, List.flatten_nil, Nat.reduceMul, Nat.zero_mul, Nat.one_mul, List.append_nil, Option.some.injEq, h0, decide_true, Try.results15, aes_41, tfield_41_1, tin_3, bin_lss, bin_geq]
    exact List.prefix_append _ _
  · have h1 : 64 ≤ e.t := by omega
    simp -dsimp only [srun_seq, srun_reg, srun_draw, srun_ret, srun_skip, srun_cond, srun_block, srun_exit, srun_loop, sops_nil, sops_cons, sdr_nil, sdr_cons, sstep_call, sstep_op, fork_true, fork_false, sif_true, sif_false, aseq_normal, aseq_ret, aseq_exit, ablock_normal, ablock_ret, ablock_same, ablock_other, aend_ret, aend_normal, holdsVT_some, holdsT_some, dstep_call, dstep_0, dstep_1, dstep_2, dskip_0, dskip_1, dskip_2, pendOk_nil, pendOk_cons, pastOk_nil, pastOk_zero, pastOk_succ, ocls, fwanted, isUndef, Array.isEmpty, isUndef, acall, aop, fev, fset, upd_same, upd_ne, tget_zero, tget_succ, tget_nil, Nat.reduceBEq, fres, fresL, fres1, abox, anew, acells, afieldAddr, aload_ptr, aloadAt, get_app, get_app0, List.cons_append, List.nil_append, List.append_assoc, List.length_append, List.length_cons, List.length_nil, Nat.reduceSub, Nat.reduceAdd, List.set_cons_zero, List.set_cons_succ, List.getElem?_cons_zero, List.getElem?_cons_succ, deepFlat, flat1, flat, if_true, Option.map_some, Option.bind_some, Bool.false_eq_true, if_false, Nat.zero_add, beq_self_eq_true, Array.getElem?_toList, List.getElem?_toArray, false_implies, true_implies, and_true, true_and, b_true, b_false, Bool.not_true, Bool.not_false, reduceIte, Bool.true_and, Bool.false_and, Bool.and_true, Bool.and_false, get_app, get_app0, set_app, set_app0, astore, astores_eqN, astoreN, okCell, aput, List.all_cons, List.all_nil, afill, abuild, apart, afield, aextract, List.drop_zero, List.drop_succ_cons, List.drop_nil, List.take_zero, List.take_succ_cons, List.take_nil, List.map_cons, List.map_nil, List.length_set, List.size_toArray, Bool.and_self, and_self, Nat.add_le_add_iff_left, Nat.le_refl, Nat.reduceLeDiff, Nat.reduceLT, ne_eq, not_true_eq_false, not_false_eq_true, or_self, Option.map_none, Option.bind_none, Bool.and_eq_true, List.cons_ne_nil, gt_iff_lt, or_false, false_or, Nat.lt_irrefl, Nat.reduceEqDiff, acall, Nat.add_zero, List.replicate, List.flatten_cons, List.flatten_nil, Nat.reduceMul, Nat.zero_mul, Nat.one_mul, List.append_nil, Option.some.injEq, h0, h1, decide_true, decide_false, Try.results15, aes_41, tfield_41_1, tin_3, bin_lss, bin_geq]
    exact List.prefix_append _ _
def r4 (x : Int × RS) (s : RS) : Prop := x = (4, s)
theorem low_app {h T : Heap} {B i : Nat} (hB : B ≤ h.length) (hi : i < B) : (h ++ T)[i]? = h[i]? := List.getElem?_append_left (by omega)
theorem event_calls (G : Nat) (h : Heap) (B idr idm : Nat) (many at_ : Int) (s : RS) (e : EvT) (R : RAt h B idr idm many s) (hL : s.L.length < 1073741824) : Does G Try.prog 15 [.pointer (some ⟨idr, 0, none⟩), .int .i64 at_, .agg e.cells.toArray] h fun r h' =>
    r = .int .i64 (rev many at_ e s).1 ∧ RAt h' B idr idm many (rev many at_ e s).2 ∧ h.length ≤ h'.length ∧ ∀ i, i < B → h'[i]? = h[i]? := by
  by_cases hb : e.t < 0 ∨ 64 ≤ e.t
  · have e1 : rev many at_ e s = (2, s) := by rw [rev, if_pos hb]
    rw [e1]
    exact (event_bad G h at_ many e idr s hb).mono fun r h' k => by
      obtain ⟨rfl, rfl⟩ := k
      exact ⟨rfl, R, Nat.le_refl _, fun _ _ => rfl⟩
  refine Does.wf (by kernel_rfl) fun hw => ?_
  refine Does.walk S15 mixed (by kernel_rfl) Try.func15 strip15 (by kernel_rfl) (by kernel_rfl) ?_
  have h0 : ¬ e.t < 0 := by omega
  have h1 : ¬ 64 ≤ e.t := by omega
  have hlen : ∀ T, alookup (.int .i64, 3, 3) (.int .i64 0) (.map (some idm)) (.int .i64 e.t) true (h ++ T) = some (match mfind s.m e.t 0 with
      | none => .tuple #[.int .i64 0, .bool false]
      | some (j, i) => .tuple #[.int .i64 i, .bool true]) := by
    intro T
    simp only [alookup, amapEs, get_old R.mp, flat, if_true, findNow_ent]
    cases mfind s.m e.t 0 <;> rfl
  obtain ⟨v, hr, ho⟩ := R.rd
  have hB : B ≤ h.length := Nat.le_trans R.br (Nat.le_of_lt (List.getElem?_eq_some_iff.1 hr).1)
  have same : ∀ T, r4 (rev many at_ e s) s → (Value.int IntKind.i64 4 = Value.int IntKind.i64 (rev many at_ e s).1 ∧ RAt (h ++ T) B idr idm many (rev many at_ e s).2 ∧
      h.length ≤ (h ++ T).length ∧ ∀ (i : Nat), i < B → (h ++ T)[i]? = h[i]?) := fun T e4 => by
    rw [show rev many at_ e s = (4, s) from e4]
    exact ⟨rfl, R.keep fun _ _ k => get_old k T, by rw [List.length_append]; omega, fun i hi => low_app hB hi⟩
  have hrev : rev many at_ e s = match mfind s.m e.t 0 with
    | none => if e.res then (4, s) else if e.a.zb then (0, ⟨s.L ++ [OpT.mk e.t e.c .zero false at_ many], s.m ++ [(e.t, (s.L.length : Int), s.ck)], s.ck + 1⟩) else (4, s)
    | some (j, i) => if e.res then
        match s.L[i.toNat]? with
        | some x => if x.c.eqb e.c then (0, ⟨s.L.set i.toNat { x with a := e.a, done := true, to := at_ }, s.m.eraseIdx j, s.ck⟩) else (4, s)
        | none => (4, s)
      else (4, s) := by rw [rev, if_neg hb]
  unfold S15
  cases hf : mfind s.m e.t 0 with
  | none =>
    simp only [hf] at hlen hrev
    cases hres : e.res with
    | true =>
      simp -dsimp only [srun_seq, srun_reg, srun_draw, srun_ret, srun_skip, srun_cond, srun_block, srun_exit, srun_loop, sops_nil, sops_cons, sdr_nil, sdr_cons, sstep_call, sstep_op, fork_true, fork_false, sif_true, sif_false, aseq_normal, aseq_ret, aseq_exit, ablock_normal, ablock_ret, ablock_same, ablock_other, aend_ret, aend_normal, holdsVT_some, holdsT_some, dstep_call, dstep_0, dstep_1, dstep_2, dskip_0, dskip_1, dskip_2, pendOk_nil, pendOk_cons, pastOk_nil, pastOk_zero, pastOk_succ, ocls, fwanted, isUndef, Array.isEmpty, isUndef, acall, aop, fev, fset, upd_same, upd_ne, tget_zero, tget_succ, tget_nil, Nat.reduceBEq, fres, fresL, fres1, abox, anew, acells, afieldAddr, aload_ptr, aloadAt, get_app, get_app0, List.cons_append, List.nil_append, List.append_assoc, List.length_append, List.length_cons, List.length_nil, Nat.reduceSub, Nat.reduceAdd, List.set_cons_zero, List.set_cons_succ, List.getElem?_cons_zero, List.getElem?_cons_succ, deepFlat, flat1, flat, if_true, Option.map_some, Option.bind_some, Bool.false_eq_true, if_false, Nat.zero_add, beq_self_eq_true, Array.getElem?_toList, List.getElem?_toArray, false_implies, true_implies, and_true, true_and, b_true, b_false, Bool.not_true, Bool.not_false, reduceIte, Bool.true_and, Bool.false_and, Bool.and_true, Bool.and_false, get_app, get_app0, set_app, set_app0, astore, astores_eqN, astoreN, okCell, aput, List.all_cons, List.all_nil, afill, abuild, apart, afield, aextract, List.drop_zero, List.drop_succ_cons, List.drop_nil, List.take_zero, List.take_succ_cons, List.take_nil, List.map_cons, List.map_nil, List.length_set, List.size_toArray, Bool.and_self, and_self, Nat.add_le_add_iff_left, Nat.le_refl, Nat.reduceLeDiff, Nat.reduceLT, ne_eq, not_true_eq_false, not_false_eq_true, or_self, Option.map_none, Option.bind_none, Bool.and_eq_true, List.cons_ne_nil, gt_iff_lt, or_false, false_or, Nat.lt_irrefl, Nat.reduceEqDiff, acall, Nat.add_zero, List.replicate, List.flatten_cons, List.flatten_nil, Nat.reduceMul, Nat.zero_mul, Nat.one_mul, List.append_nil, Option.some.injEq, h0, h1, hres, get_old hr, get_old R.mp, hlen, aes_24, aes_29, aes_32, aes_41, aes_52, isString_9, notInt_22, notInt_35, notInt_42, tfield_29_0, tfield_29_1, tfield_29_2, tfield_29_3, tfield_29_4, tfield_29_5, tfield_32_0, tfield_32_1, tfield_32_2, tfield_32_3, tfield_32_4, tfield_32_5, tfield_41_0, tfield_41_1, tfield_41_2, tfield_41_3, tfield_52_0, tfield_52_1, tfield_52_2, tin_24, tin_27, tin_29, tin_3, tin_32, tin_35, tin_4, tin_41, tin_50, tix_22, tix_35, tix_42, tmap_50, tparts_24, tparts_27, tparts_32, tparts_41, tparts_52, tslice_22, tslice_35, tslice_42, tz_24, tz_32, tz_41, tzv_3, under_22, under_3, under_35, under_42, under_5, under_59, under_69, under_71, bin_lss, bin_geq, bin_gtr, bin_leq, bin_eql, bin_neq, bin_add, bin_sub, un_not, Try.results3, Try.results4, Try.results5, Try.results6, Try.results7, Try.results8, Try.results9, Try.results10, Try.results11, Try.results12, Try.results13, Try.results14, Try.results15, Try.results16, Try.results17, Try.results18, Try.results19, Try.results28, Try.results29, decide_true, decide_false, bool_neq, ans_neq, call_neq]
      have := same [AObj.cells e.cells 0 none true] (by rw [r4, hrev, hres]; rfl)
      simpa using this
    | false =>
      cases hz : e.a.zb with
      | false =>
        simp -dsimp only [srun_seq, srun_reg, srun_draw, srun_ret, srun_skip, srun_cond, srun_block, srun_exit, srun_loop, sops_nil, sops_cons, sdr_nil, sdr_cons, sstep_call, sstep_op, fork_true, fork_false, sif_true, sif_false, aseq_normal, aseq_ret, aseq_exit, ablock_normal, ablock_ret, ablock_same, ablock_other, aend_ret, aend_normal, holdsVT_some, holdsT_some, dstep_call, dstep_0, dstep_1, dstep_2, dskip_0, dskip_1, dskip_2, pendOk_nil, pendOk_cons, pastOk_nil, pastOk_zero, pastOk_succ, ocls, fwanted, isUndef, Array.isEmpty, isUndef, acall, aop, fev, fset, upd_same, upd_ne, tget_zero, tget_succ, tget_nil, Nat.reduceBEq, fres, fresL, fres1, abox, anew, acells, afieldAddr, aload_ptr, aloadAt, get_app, get_app0, List.cons_append, List.nil_append, List.append_assoc, List.length_append, List.length_cons, List.length_nil, Nat.reduceSub, Nat.reduceAdd, List.set_cons_zero, List.set_cons_succ, List.getElem?_cons_zero, List.getElem?_cons_succ, deepFlat, flat1, flat, if_true, Option.map_some, Option.bind_some, Bool.false_eq_true, if_false, Nat.zero_add, beq_self_eq_true, Array.getElem?_toList, List.getElem?_toArray, false_implies, true_implies, and_true, true_and, b_true, b_false, Bool.not_true, Bool.not_false, reduceIte, Bool.true_and, Bool.false_and, Bool.and_true, Bool.and_false, get_app, get_app0, set_app, set_app0, astore, astores_eqN, astoreN, okCell, aput, List.all_cons, List.all_nil, afill, abuild, apart, afield, aextract, List.drop_zero, List.drop_succ_cons, List.drop_nil, List.take_zero, List.take_succ_cons, List.take_nil, List.map_cons, List.map_nil, List.length_set, List.size_toArray, Bool.and_self, and_self, Nat.add_le_add_iff_left, Nat.le_refl, Nat.reduceLeDiff, Nat.reduceLT, ne_eq, not_true_eq_false, not_false_eq_true, or_self, Option.map_none, Option.bind_none, Bool.and_eq_true, List.cons_ne_nil, gt_iff_lt, or_false, false_or, Nat.lt_irrefl, Nat.reduceEqDiff, acall, Nat.add_zero, List.replicate, List.flatten_cons, List.flatten_nil, Nat.reduceMul, Nat.zero_mul, Nat.one_mul, List.append_nil, Option.some.injEq, h0, h1, hres, hz, get_old hr, get_old R.mp, hlen, aes_24, aes_29, aes_32, aes_41, aes_52, isString_9, notInt_22, notInt_35, notInt_42, tfield_29_0, tfield_29_1, tfield_29_2, tfield_29_3, tfield_29_4, tfield_29_5, tfield_32_0, tfield_32_1, tfield_32_2, tfield_32_3, tfield_32_4, tfield_32_5, tfield_41_0, tfield_41_1, tfield_41_2, tfield_41_3, tfield_52_0, tfield_52_1, tfield_52_2, tin_24, tin_27, tin_29, tin_3, tin_32, tin_35, tin_4, tin_41, tin_50, tix_22, tix_35, tix_42, tmap_50, tparts_24, tparts_27, tparts_32, tparts_41, tparts_52, tslice_22, tslice_35, tslice_42, tz_24, tz_32, tz_41, tzv_3, under_22, under_3, under_35, under_42, under_5, under_59, under_69, under_71, bin_lss, bin_geq, bin_gtr, bin_leq, bin_eql, bin_neq, bin_add, bin_sub, un_not, Try.results3, Try.results4, Try.results5, Try.results6, Try.results7, Try.results8, Try.results9, Try.results10, Try.results11, Try.results12, Try.results13, Try.results14, Try.results15, Try.results16, Try.results17, Try.results18, Try.results19, Try.results28, Try.results29, decide_true, decide_false, bool_neq, ans_neq, call_neq]
        have := same [AObj.cells e.cells 0 none true] (by rw [r4, hrev, hres, hz]; rfl)
        simpa using this
      | true =>
        have hne : idm ≠ idr := by
          rintro rfl
          have := R.mp
          rw [hr] at this; cases this
        have hm0 := R.mp
        have hmlt : idm < h.length := (List.getElem?_eq_some_iff.1 R.mp).1
        have hrlt : idr < h.length := (List.getElem?_eq_some_iff.1 hr).1
        obtain ⟨h2, hh2⟩ : ∃ h2, h2 = h.set idm (.map ((s.m ++ [(e.t, (s.L.length : Int), s.ck)]).map ent) (s.ck + 1)) := ⟨_, rfl⟩
        have len2 : h2.length = h.length := by rw [hh2, List.length_set]
        have gm2 : h2[idm]? = some (.map ((s.m ++ [(e.t, (s.L.length : Int), s.ck)]).map ent) (s.ck + 1)) := by rw [hh2, List.getElem?_set]; simp [hmlt]
        have same2 : ∀ i : Nat, i ≠ idm → h2[i]? = h[i]? := fun i hi => by rw [hh2, List.getElem?_set_ne (Ne.symm hi)]
        have gr2 := (same2 idr (Ne.symm hne)).trans hr
        have hset : ∀ T, amapSet (.int .i64) (.map (some idm)) (.int .i64 e.t) (.int .i64 (s.L.length : Int)) (h ++ T) = some (h2 ++ T) := by
          intro T
          simp only [amapSet, get_old hm0, flat, if_true, findNow_ent, hf, Option.map_none, set_low hmlt, hh2, List.map_append, List.map_cons, List.map_nil]
          rfl
        have hlen0 : ∀ T, abuiltin Try.prog .len #[35] [v] (h ++ T) = some (.int .i64 (s.L.length : Int), h ++ T) := by
          intro T
          rcases ho with ⟨hL, rfl⟩ | ⟨ido, q, o1, o2, o3, rfl⟩
          · rw [hL]; simp only [abuiltin, List.getElem?_toArray, List.getElem?_cons_zero, alen, under_35]; rfl
          · simp only [abuiltin, List.getElem?_toArray, List.getElem?_cons_zero, alen, under_35]
        have hw2 : WF h2 := by
          intro id c es k rw e
          by_cases hid : id = idm
          · subst hid; rw [gm2] at e; cases e
          · rw [same2 id hid] at e; exact hw _ _ _ _ _ e
        have ho2 : OpsAt h2 B v s.L := by
          rcases ho with ho | ⟨ido, q, o1, o2, o3, o4⟩
          · exact .inl ho
          · refine .inr ⟨ido, q, o1, o2, ?_, o4⟩
            rw [same2 ido]
            · exact o3
            · rintro rfl; rw [hm0] at o3; cases o3
        obtain ⟨h3, q, keep, hq, happ⟩ := ho2.push cells14 hw2 (by omega) (b := 152) (z := [.int .i64 0, .int .i64 0, .string ⟨#[]⟩, .string ⟨#[]⟩, .string ⟨#[]⟩, .int .i64 0, .int .i64 0, .bool false, .string ⟨#[]⟩, .string ⟨#[]⟩, .int .i64 0, .bool false, .int .i64 0, .int .i64 0]) (by decide) hL
          (T := [.cells e.cells 0 none true, .cells [.int .i64 e.t, .int .i64 e.c.op, .string e.c.key, .string e.c.val, .string e.c.old, .int .i64 e.c.h, .int .i64 0, .bool false, .string ⟨#[]⟩, .string ⟨#[]⟩, .int .i64 0, .bool false, .int .i64 at_, .int .i64 many] 14 none true])
          (k := 1) rfl ⟨e.t, e.c, .zero, false, at_, many⟩ (es := 14) rfl rfl
        simp only [List.length_cons, List.length_nil, Nat.reduceAdd, List.cons_append, List.nil_append, len2] at happ
        have len3 : h3.length = h.length := keep.len.trans len2
        have gr3 := keep.free _ _ gr2 rfl
        have gm3 := keep.free _ _ gm2 rfl
        have hrlt3 : idr < h3.length := by omega
        simp -dsimp only [srun_seq, srun_reg, srun_draw, srun_ret, srun_skip, srun_cond, srun_block, srun_exit, srun_loop, sops_nil, sops_cons, sdr_nil, sdr_cons, sstep_call, sstep_op, fork_true, fork_false, sif_true, sif_false, aseq_normal, aseq_ret, aseq_exit, ablock_normal, ablock_ret, ablock_same, ablock_other, aend_ret, aend_normal, holdsVT_some, holdsT_some, dstep_call, dstep_0, dstep_1, dstep_2, dskip_0, dskip_1, dskip_2, pendOk_nil, pendOk_cons, pastOk_nil, pastOk_zero, pastOk_succ, ocls, fwanted, isUndef, Array.isEmpty, isUndef, acall, aop, fev, fset, upd_same, upd_ne, tget_zero, tget_succ, tget_nil, Nat.reduceBEq, fres, fresL, fres1, abox, anew, acells, afieldAddr, aload_ptr, aloadAt, get_app, get_app0, List.cons_append, List.nil_append, List.append_assoc, List.length_append, List.length_cons, List.length_nil, Nat.reduceSub, Nat.reduceAdd, List.set_cons_zero, List.set_cons_succ, List.getElem?_cons_zero, List.getElem?_cons_succ, deepFlat, flat1, flat, if_true, Option.map_some, Option.bind_some, Bool.false_eq_true, if_false, Nat.zero_add, beq_self_eq_true, Array.getElem?_toList, List.getElem?_toArray, false_implies, true_implies, and_true, true_and, b_true, b_false, Bool.not_true, Bool.not_false, reduceIte, Bool.true_and, Bool.false_and, Bool.and_true, Bool.and_false, get_app, get_app0, set_app, set_app0, astore, astores_eqN, astoreN, okCell, aput, List.all_cons, List.all_nil, afill, abuild, apart, afield, aextract, List.drop_zero, List.drop_succ_cons, List.drop_nil, List.take_zero, List.take_succ_cons, List.take_nil, List.map_cons, List.map_nil, List.length_set, List.size_toArray, Bool.and_self, and_self, Nat.add_le_add_iff_left, Nat.le_refl, Nat.reduceLeDiff, Nat.reduceLT, ne_eq, not_true_eq_false, not_false_eq_true, or_self, Option.map_none, Option.bind_none, Bool.and_eq_true, List.cons_ne_nil, gt_iff_lt, or_false, false_or, Nat.lt_irrefl, Nat.reduceEqDiff, acall, Nat.add_zero, List.replicate, List.flatten_cons, List.flatten_nil, Nat.reduceMul, Nat.zero_mul, Nat.one_mul, List.append_nil, Option.some.injEq, h0, h1, hres, hz, get_old hr, get_old R.mp, hlen, hset, hlen0, append_35, happ, len2, len3, reb_get len2, reb_get0 len2, reb_get len3, reb_get0 len3, get_old gr2, get_old gr3, set_low hrlt3, abuildSlice, aes_24, aes_29, aes_32, aes_41, aes_52, isString_9, notInt_22, notInt_35, notInt_42, tfield_29_0, tfield_29_1, tfield_29_2, tfield_29_3, tfield_29_4, tfield_29_5, tfield_32_0, tfield_32_1, tfield_32_2, tfield_32_3, tfield_32_4, tfield_32_5, tfield_41_0, tfield_41_1, tfield_41_2, tfield_41_3, tfield_52_0, tfield_52_1, tfield_52_2, tin_24, tin_27, tin_29, tin_3, tin_32, tin_35, tin_4, tin_41, tin_50, tix_22, tix_35, tix_42, tmap_50, tparts_24, tparts_27, tparts_32, tparts_41, tparts_52, tslice_22, tslice_35, tslice_42, tz_24, tz_32, tz_41, tzv_3, under_22, under_3, under_35, under_42, under_5, under_59, under_69, under_71, bin_lss, bin_geq, bin_gtr, bin_leq, bin_eql, bin_neq, bin_add, bin_sub, un_not, Try.results3, Try.results4, Try.results5, Try.results6, Try.results7, Try.results8, Try.results9, Try.results10, Try.results11, Try.results12, Try.results13, Try.results14, Try.results15, Try.results16, Try.results17, Try.results18, Try.results19, Try.results28, Try.results29, decide_true, decide_false, bool_neq, ans_neq, call_neq]
        have e0 : rev many at_ e s = (0, ⟨s.L ++ [OpT.mk e.t e.c .zero false at_ many], s.m ++ [(e.t, (s.L.length : Int), s.ck)], s.ck + 1⟩) := by rw [hrev, hres, hz]; rfl
        rw [e0]
        refine ⟨rfl, ⟨?_, R.br, R.bm, ⟨.slice (some ⟨h.length + 2, 0, none⟩) (s.L.length + 1) unk, get_old (by rw [List.getElem?_set]; simp [hrlt3]) _, .inr ⟨h.length + 2, q, by omega, hq, ?_, by simp⟩⟩, get_old (by rw [List.getElem?_set_ne (Ne.symm hne)]; exact gm3) _⟩, by omega, fun i hi => ?_⟩
        · intro p hp
          simp only [List.mem_append, List.mem_singleton, List.length_append, List.length_cons, List.length_nil] at hp ⊢
          rcases hp with hp | rfl
          · have := R.ok p hp; omega
          · simp only []; omega
        · exact (reb_get (h := h) (by rw [List.length_set, len3]) _ 2).trans rfl
        · have hi1 : i ≠ idr := by have := R.br; omega
          have hi2 : i ≠ idm := by have := R.bm; omega
          rw [List.getElem?_append_left (by rw [List.length_set]; omega), List.getElem?_set_ne (Ne.symm hi1), keep.low i hi, same2 i hi2]
  | some ji =>
    obtain ⟨j, i⟩ := ji
    simp only [hf] at hlen hrev
    cases hres : e.res with
    | false =>
      simp -dsimp only [srun_seq, srun_reg, srun_draw, srun_ret, srun_skip, srun_cond, srun_block, srun_exit, srun_loop, sops_nil, sops_cons, sdr_nil, sdr_cons, sstep_call, sstep_op, fork_true, fork_false, sif_true, sif_false, aseq_normal, aseq_ret, aseq_exit, ablock_normal, ablock_ret, ablock_same, ablock_other, aend_ret, aend_normal, holdsVT_some, holdsT_some, dstep_call, dstep_0, dstep_1, dstep_2, dskip_0, dskip_1, dskip_2, pendOk_nil, pendOk_cons, pastOk_nil, pastOk_zero, pastOk_succ, ocls, fwanted, isUndef, Array.isEmpty, isUndef, acall, aop, fev, fset, upd_same, upd_ne, tget_zero, tget_succ, tget_nil, Nat.reduceBEq, fres, fresL, fres1, abox, anew, acells, afieldAddr, aload_ptr, aloadAt, get_app, get_app0, List.cons_append, List.nil_append, List.append_assoc, List.length_append, List.length_cons, List.length_nil, Nat.reduceSub, Nat.reduceAdd, List.set_cons_zero, List.set_cons_succ, List.getElem?_cons_zero, List.getElem?_cons_succ, deepFlat, flat1, flat, if_true, Option.map_some, Option.bind_some, Bool.false_eq_true, if_false, Nat.zero_add, beq_self_eq_true, Array.getElem?_toList, List.getElem?_toArray, false_implies, true_implies, and_true, true_and, b_true, b_false, Bool.not_true, Bool.not_false, reduceIte, Bool.true_and, Bool.false_and, Bool.and_true, Bool.and_false, get_app, get_app0, set_app, set_app0, astore, astores_eqN, astoreN, okCell, aput, List.all_cons, List.all_nil, afill, abuild, apart, afield, aextract, List.drop_zero, List.drop_succ_cons, List.drop_nil, List.take_zero, List.take_succ_cons, List.take_nil, List.map_cons, List.map_nil, List.length_set, List.size_toArray, Bool.and_self, and_self, Nat.add_le_add_iff_left, Nat.le_refl, Nat.reduceLeDiff, Nat.reduceLT, ne_eq, not_true_eq_false, not_false_eq_true, or_self, Option.map_none, Option.bind_none, Bool.and_eq_true, List.cons_ne_nil, gt_iff_lt, or_false, false_or, Nat.lt_irrefl, Nat.reduceEqDiff, acall, Nat.add_zero, List.replicate, List.flatten_cons, List.flatten_nil, Nat.reduceMul, Nat.zero_mul, Nat.one_mul, List.append_nil, Option.some.injEq, h0, h1, hres, get_old hr, get_old R.mp, hlen, aes_24, aes_29, aes_32, aes_41, aes_52, isString_9, notInt_22, notInt_35, notInt_42, tfield_29_0, tfield_29_1, tfield_29_2, tfield_29_3, tfield_29_4, tfield_29_5, tfield_32_0, tfield_32_1, tfield_32_2, tfield_32_3, tfield_32_4, tfield_32_5, tfield_41_0, tfield_41_1, tfield_41_2, tfield_41_3, tfield_52_0, tfield_52_1, tfield_52_2, tin_24, tin_27, tin_29, tin_3, tin_32, tin_35, tin_4, tin_41, tin_50, tix_22, tix_35, tix_42, tmap_50, tparts_24, tparts_27, tparts_32, tparts_41, tparts_52, tslice_22, tslice_35, tslice_42, tz_24, tz_32, tz_41, tzv_3, under_22, under_3, under_35, under_42, under_5, under_59, under_69, under_71, bin_lss, bin_geq, bin_gtr, bin_leq, bin_eql, bin_neq, bin_add, bin_sub, un_not, Try.results3, Try.results4, Try.results5, Try.results6, Try.results7, Try.results8, Try.results9, Try.results10, Try.results11, Try.results12, Try.results13, Try.results14, Try.results15, Try.results16, Try.results17, Try.results18, Try.results19, Try.results28, Try.results29, decide_true, decide_false, bool_neq, ans_neq, call_neq]
      have := same [AObj.cells e.cells 0 none true] (by rw [r4, hrev, hres]; rfl)
      simpa using this
    | true =>
      obtain ⟨p, hp, hpi⟩ := mfind_mem _ _ _ _ _ hf
      have hib := R.ok p hp
      rw [hpi] at hib
      rcases ho with ⟨hL0, rfl⟩ | ⟨ido, q, o1, o2, o3, rfl⟩
      · rw [hL0] at hib; simp at hib; omega
      have hin : i.toNat < s.L.length := by omega
      obtain ⟨x, hx⟩ : ∃ x, x = s.L[i.toNat] := ⟨_, rfl⟩
      have hx? : s.L[i.toNat]? = some x := by rw [hx]; exact List.getElem?_eq_getElem hin
      simp only [hx?] at hrev
      have hidx : aindexAddr (none, true, 14) (.slice (some ⟨ido, 0, none⟩) s.L.length unk) (.int .i64 i) = some (.pointer (some ⟨ido, i.toNat * 14, none⟩)) := by
        rw [aindexAddr_int hib.1 (by omega), Nat.zero_add]
      have hfit : i.toNat * 14 + 1 + 5 ≤ s.L.length * 14 := by omega
      have hpart : List.take 5 (List.drop (i.toNat * 14 + 1) (s.L.flatMap OpT.cells)) = x.c.cells := by
        rw [flatMap_part cells14 s.L i.toNat 1 5 hin (by omega), ← hx]
        rfl
      cases hc : x.c.eqb e.c with
      | false =>
        simp -dsimp only [srun_seq, srun_reg, srun_draw, srun_ret, srun_skip, srun_cond, srun_block, srun_exit, srun_loop, sops_nil, sops_cons, sdr_nil, sdr_cons, sstep_call, sstep_op, fork_true, fork_false, sif_true, sif_false, aseq_normal, aseq_ret, aseq_exit, ablock_normal, ablock_ret, ablock_same, ablock_other, aend_ret, aend_normal, holdsVT_some, holdsT_some, dstep_call, dstep_0, dstep_1, dstep_2, dskip_0, dskip_1, dskip_2, pendOk_nil, pendOk_cons, pastOk_nil, pastOk_zero, pastOk_succ, ocls, fwanted, isUndef, Array.isEmpty, isUndef, acall, aop, fev, fset, upd_same, upd_ne, tget_zero, tget_succ, tget_nil, Nat.reduceBEq, fres, fresL, fres1, abox, anew, acells, afieldAddr, aload_ptr, aloadAt, get_app, get_app0, List.cons_append, List.nil_append, List.append_assoc, List.length_append, List.length_cons, List.length_nil, Nat.reduceSub, Nat.reduceAdd, List.set_cons_zero, List.set_cons_succ, List.getElem?_cons_zero, List.getElem?_cons_succ, deepFlat, flat1, flat, if_true, Option.map_some, Option.bind_some, Bool.false_eq_true, if_false, Nat.zero_add, beq_self_eq_true, Array.getElem?_toList, List.getElem?_toArray, false_implies, true_implies, and_true, true_and, b_true, b_false, Bool.not_true, Bool.not_false, reduceIte, Bool.true_and, Bool.false_and, Bool.and_true, Bool.and_false, get_app, get_app0, set_app, set_app0, astore, astores_eqN, astoreN, okCell, aput, List.all_cons, List.all_nil, afill, abuild, apart, afield, aextract, List.drop_zero, List.drop_succ_cons, List.drop_nil, List.take_zero, List.take_succ_cons, List.take_nil, List.map_cons, List.map_nil, List.length_set, List.size_toArray, Bool.and_self, and_self, Nat.add_le_add_iff_left, Nat.le_refl, Nat.reduceLeDiff, Nat.reduceLT, ne_eq, not_true_eq_false, not_false_eq_true, or_self, Option.map_none, Option.bind_none, Bool.and_eq_true, List.cons_ne_nil, gt_iff_lt, or_false, false_or, Nat.lt_irrefl, Nat.reduceEqDiff, acall, Nat.add_zero, List.replicate, List.flatten_cons, List.flatten_nil, Nat.reduceMul, Nat.zero_mul, Nat.one_mul, List.append_nil, Option.some.injEq, h0, h1, hres, hc, get_old hr, get_old R.mp, hlen, hidx, get_old o3, flatMap_len cells14, hfit, hpart, aes_24, aes_29, aes_32, aes_41, aes_52, isString_9, notInt_22, notInt_35, notInt_42, tfield_29_0, tfield_29_1, tfield_29_2, tfield_29_3, tfield_29_4, tfield_29_5, tfield_32_0, tfield_32_1, tfield_32_2, tfield_32_3, tfield_32_4, tfield_32_5, tfield_41_0, tfield_41_1, tfield_41_2, tfield_41_3, tfield_52_0, tfield_52_1, tfield_52_2, tin_24, tin_27, tin_29, tin_3, tin_32, tin_35, tin_4, tin_41, tin_50, tix_22, tix_35, tix_42, tmap_50, tparts_24, tparts_27, tparts_32, tparts_41, tparts_52, tslice_22, tslice_35, tslice_42, tz_24, tz_32, tz_41, tzv_3, under_22, under_3, under_35, under_42, under_5, under_59, under_69, under_71, bin_lss, bin_geq, bin_gtr, bin_leq, bin_eql, bin_neq, bin_add, bin_sub, un_not, Try.results3, Try.results4, Try.results5, Try.results6, Try.results7, Try.results8, Try.results9, Try.results10, Try.results11, Try.results12, Try.results13, Try.results14, Try.results15, Try.results16, Try.results17, Try.results18, Try.results19, Try.results28, Try.results29, decide_true, decide_false, bool_neq, ans_neq, call_neq]
        have := same [AObj.cells e.cells 0 none true] (by rw [r4, hrev, hres, hc]; rfl)
        simpa using this
      | true =>
        have hmlt : idm < h.length := (List.getElem?_eq_some_iff.1 R.mp).1
        obtain ⟨y1, hy1⟩ : ∃ y1 : OpT, y1 = { x with a := e.a } := ⟨_, rfl⟩
        obtain ⟨y2, hy2⟩ : ∃ y2 : OpT, y2 = { y1 with done := true } := ⟨_, rfl⟩
        obtain ⟨y3, hy3⟩ : ∃ y3 : OpT, y3 = { y2 with to := at_ } := ⟨_, rfl⟩
        obtain ⟨h2, k2, w2, g2, st2⟩ := row_store (k := 6) (vs := e.a.cells) (y := y1) hw hB o1 o2 o3 cells14 i.toNat hin (by simp) rfl (by rw [← hx, hy1]; rfl)
        obtain ⟨h3, k3, w3, g3, st3⟩ := row_store (k := 11) (vs := [.bool true]) (y := y2) w2 (by rw [k2.len]; exact hB) o1 o2 g2 cells14 i.toNat (by rw [List.length_set]; exact hin) (by simp) rfl (by rw [List.getElem_set_self, hy2]; rfl)
        obtain ⟨h4, k4, w4, g4, st4⟩ := row_store (k := 13) (vs := [.int .i64 at_]) (y := y3) w3 (by rw [k3.len, k2.len]; exact hB) o1 o2 g3 cells14 i.toNat (by rw [List.length_set, List.length_set]; exact hin) (by simp) rfl (by rw [List.getElem_set_self, hy3]; rfl)
        have len2 := k2.len
        have len3 := k3.len.trans len2
        have len4 := k4.len.trans len3
        have r2 := k2.free _ _ hr rfl
        have r3 := k3.free _ _ r2 rfl
        have r4' := k4.free _ _ r3 rfl
        have m2 := k2.free _ _ R.mp rfl
        have m3 := k3.free _ _ m2 rfl
        have m4 := k4.free _ _ m3 rfl
        have s2 := st2 [.cells e.cells 0 none true] rfl
        have s3 := st3 [.cells e.cells 0 none true] rfl
        have s4 := st4 [.cells e.cells 0 none true] rfl
        simp only [AnsT.cells] at s2
        have hdel : ∀ T, adelete (.int .i64) (.map (some idm)) (.int .i64 e.t) (h4 ++ T) = some (h4.set idm (.map ((s.m.eraseIdx j).map ent) s.ck) ++ T) := by
          intro T
          simp only [adelete, get_old m4, flat, if_true, findNow_ent, hf, Option.map_some, set_low (show idm < h4.length by omega)]
          rw [map_erase]
        simp -dsimp only [srun_seq, srun_reg, srun_draw, srun_ret, srun_skip, srun_cond, srun_block, srun_exit, srun_loop, sops_nil, sops_cons, sdr_nil, sdr_cons, sstep_call, sstep_op, fork_true, fork_false, sif_true, sif_false, aseq_normal, aseq_ret, aseq_exit, ablock_normal, ablock_ret, ablock_same, ablock_other, aend_ret, aend_normal, holdsVT_some, holdsT_some, dstep_call, dstep_0, dstep_1, dstep_2, dskip_0, dskip_1, dskip_2, pendOk_nil, pendOk_cons, pastOk_nil, pastOk_zero, pastOk_succ, ocls, fwanted, isUndef, Array.isEmpty, isUndef, acall, aop, fev, fset, upd_same, upd_ne, tget_zero, tget_succ, tget_nil, Nat.reduceBEq, fres, fresL, fres1, abox, anew, acells, afieldAddr, aload_ptr, aloadAt, get_app, get_app0, List.cons_append, List.nil_append, List.append_assoc, List.length_append, List.length_cons, List.length_nil, Nat.reduceSub, Nat.reduceAdd, List.set_cons_zero, List.set_cons_succ, List.getElem?_cons_zero, List.getElem?_cons_succ, deepFlat, flat1, flat, if_true, Option.map_some, Option.bind_some, Bool.false_eq_true, if_false, Nat.zero_add, beq_self_eq_true, Array.getElem?_toList, List.getElem?_toArray, false_implies, true_implies, and_true, true_and, b_true, b_false, Bool.not_true, Bool.not_false, reduceIte, Bool.true_and, Bool.false_and, Bool.and_true, Bool.and_false, get_app, get_app0, set_app, set_app0, astore, astores_eqN, astoreN, okCell, aput, List.all_cons, List.all_nil, afill, abuild, apart, afield, aextract, List.drop_zero, List.drop_succ_cons, List.drop_nil, List.take_zero, List.take_succ_cons, List.take_nil, List.map_cons, List.map_nil, List.length_set, List.size_toArray, Bool.and_self, and_self, Nat.add_le_add_iff_left, Nat.le_refl, Nat.reduceLeDiff, Nat.reduceLT, ne_eq, not_true_eq_false, not_false_eq_true, or_self, Option.map_none, Option.bind_none, Bool.and_eq_true, List.cons_ne_nil, gt_iff_lt, or_false, false_or, Nat.lt_irrefl, Nat.reduceEqDiff, acall, Nat.add_zero, List.replicate, List.flatten_cons, List.flatten_nil, Nat.reduceMul, Nat.zero_mul, Nat.one_mul, List.append_nil, Option.some.injEq, h0, h1, hres, hc, get_old hr, get_old R.mp, hlen, hidx, get_old o3, flatMap_len cells14, hfit, hpart, get_old g2, get_old g3, get_old g4, get_old r2, get_old r3, get_old r4', get_old m2, get_old m3, get_old m4, reb_get len2, reb_get0 len2, reb_get len3, reb_get0 len3, reb_get len4, reb_get0 len4, len2, len3, len4, s2, s3, s4, hdel, abuiltin, aes_24, aes_29, aes_32, aes_41, aes_52, isString_9, notInt_22, notInt_35, notInt_42, tfield_29_0, tfield_29_1, tfield_29_2, tfield_29_3, tfield_29_4, tfield_29_5, tfield_32_0, tfield_32_1, tfield_32_2, tfield_32_3, tfield_32_4, tfield_32_5, tfield_41_0, tfield_41_1, tfield_41_2, tfield_41_3, tfield_52_0, tfield_52_1, tfield_52_2, tin_24, tin_27, tin_29, tin_3, tin_32, tin_35, tin_4, tin_41, tin_50, tix_22, tix_35, tix_42, tmap_50, tparts_24, tparts_27, tparts_32, tparts_41, tparts_52, tslice_22, tslice_35, tslice_42, tz_24, tz_32, tz_41, tzv_3, under_22, under_3, under_35, under_42, under_5, under_59, under_69, under_71, bin_lss, bin_geq, bin_gtr, bin_leq, bin_eql, bin_neq, bin_add, bin_sub, un_not, Try.results3, Try.results4, Try.results5, Try.results6, Try.results7, Try.results8, Try.results9, Try.results10, Try.results11, Try.results12, Try.results13, Try.results14, Try.results15, Try.results16, Try.results17, Try.results18, Try.results19, Try.results28, Try.results29, decide_true, decide_false, bool_neq, ans_neq, call_neq]
        have e0 : rev many at_ e s = (0, ⟨s.L.set i.toNat y3, s.m.eraseIdx j, s.ck⟩) := by rw [hrev, hres, hc, hy3, hy2, hy1]; rfl
        rw [e0]
        have hne : idm ≠ idr := by
          rintro rfl
          have := R.mp
          rw [hr] at this; cases this
        have hne3 : idm ≠ ido := by
          rintro rfl
          rw [g4] at m4; cases m4
        simp only [List.set_set] at g4
        refine ⟨rfl, ⟨?_, R.br, R.bm, ⟨.slice (some ⟨ido, 0, none⟩) s.L.length unk, get_old (by rw [List.getElem?_set_ne hne]; exact r4') _, .inr ⟨ido, q, o1, o2, get_old (by rw [List.getElem?_set_ne hne3]; exact g4) _, by simp⟩⟩, get_old (by rw [List.getElem?_set]; simp; omega) _⟩, by omega, fun i hi => ?_⟩
        · intro p hp
          have := R.ok p (List.mem_of_mem_eraseIdx hp)
          simpa using this
        · have hi2 : i ≠ idm := by have := R.bm; omega
          rw [List.getElem?_append_left (by rw [List.length_set]; omega), List.getElem?_set_ne (Ne.symm hi2), k4.low i hi, k3.low i hi, k2.low i hi]
end Go.Proofs.Ytnhnelhcipafeaa.Ab
