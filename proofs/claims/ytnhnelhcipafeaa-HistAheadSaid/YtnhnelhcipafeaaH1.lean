/- The data of histories; being ahead. -/
import Derived.Test.YtnhnelhcipafeaaH0
set_option linter.unusedSimpArgs false
set_option linter.unusedVariables false
namespace Go.Proofs.Ytnhnelhcipafeaa.Ab
open Go Go.RowKit Go.Proofs

structure CallT where
  op : Int
  key : ByteArray
  val : ByteArray
  old : ByteArray
  h : Int
structure AnsT where
  code : Int
  has : Bool
  key : ByteArray
  val : ByteArray
  n : Int
structure EvT where
  res : Bool
  t : Int
  c : CallT
  a : AnsT
structure OpT where
  t : Int
  c : CallT
  a : AnsT
  done : Bool
  frm : Int
  to : Int
@[reducible] def CallT.cells (c : CallT) : List Value := [.int .i64 c.op, .string c.key, .string c.val, .string c.old, .int .i64 c.h]
@[reducible] def AnsT.cells (a : AnsT) : List Value := [.int .i64 a.code, .bool a.has, .string a.key, .string a.val, .int .i64 a.n]
@[reducible] def EvT.cells (e : EvT) : List Value := [.bool e.res, .int .i64 e.t, .int .i64 e.c.op, .string e.c.key, .string e.c.val, .string e.c.old, .int .i64 e.c.h, .int .i64 e.a.code, .bool e.a.has, .string e.a.key, .string e.a.val, .int .i64 e.a.n]
@[reducible] def OpT.cells (o : OpT) : List Value := [.int .i64 o.t, .int .i64 o.c.op, .string o.c.key, .string o.c.val, .string o.c.old, .int .i64 o.c.h, .int .i64 o.a.code, .bool o.a.has, .string o.a.key, .string o.a.val, .int .i64 o.a.n, .bool o.done, .int .i64 o.frm, .int .i64 o.to]
def OpT.ahead (a b : OpT) : Bool := a.done && decide (a.to < b.frm)

theorem bin_lss (t : TypeId) (X Y : Operand) (x y : Int) : abin Try.prog .lss t X Y (.int .i64 x) (.int .i64 y) = some (.bool (decide (x < y))) := (by rfl : _ = _).trans rfl
theorem bin_geq (t : TypeId) (X Y : Operand) (x y : Int) : abin Try.prog .geq t X Y (.int .i64 x) (.int .i64 y) = some (.bool (decide (y ≤ x))) := (by rfl : _ = _).trans rfl
theorem bin_gtr (t : TypeId) (X Y : Operand) (x y : Int) : abin Try.prog .gtr t X Y (.int .i64 x) (.int .i64 y) = some (.bool (decide (y < x))) := (by rfl : _ = _).trans rfl
theorem bin_leq (t : TypeId) (X Y : Operand) (x y : Int) : abin Try.prog .leq t X Y (.int .i64 x) (.int .i64 y) = some (.bool (decide (x ≤ y))) := (by rfl : _ = _).trans rfl
theorem bin_eql (t : TypeId) (X Y : Operand) (x y : Int) : abin Try.prog .eql t X Y (.int .i64 x) (.int .i64 y) = some (.bool (decide (x = y))) := (by rfl : _ = _).trans rfl
theorem bin_neq (t : TypeId) (X Y : Operand) (x y : Int) : abin Try.prog .neq t X Y (.int .i64 x) (.int .i64 y) = some (.bool (!(x == y))) := (by rfl : _ = _).trans rfl
theorem bin_add (t : TypeId) (X Y : Operand) (x y : Int) : abin Try.prog .add t X Y (.int .i64 x) (.int .i64 y) = some (.int .i64 (IntKind.i64.wrap (x + y))) := (by rfl : _ = _).trans rfl
theorem bin_sub (t : TypeId) (X Y : Operand) (x y : Int) : abin Try.prog .sub t X Y (.int .i64 x) (.int .i64 y) = some (.int .i64 (IntKind.i64.wrap (x - y))) := (by rfl : _ = _).trans rfl
theorem un_not (b : Bool) : aun Try.prog .not (.bool b) = some (.bool (!b)) := (by rfl : _ = _).trans rfl
theorem ahead_calls (G : Nat) (h : Heap) (a b : OpT) : Does G Try.prog 5 [.agg a.cells.toArray, .agg b.cells.toArray] h fun r h' => r = .bool (a.ahead b) ∧ h' = h := by
  refine Does.drop rfl ?_
  refine Does.walk S5 mixed (by kernel_rfl) Try.func5 strip5 (by kernel_rfl) (by kernel_rfl) ?_
  simp only [OpT.ahead]
  unfold S5
  obtain ⟨t, c, an, done, frm, to⟩ := a
  cases done <;> simp -dsimp only [srun_seq, srun_reg, srun_draw, srun_ret, srun_skip, srun_cond, srun_block, srun_exit, srun_loop, sops_nil, sops_cons, sdr_nil, sdr_cons, sstep_call, sstep_op, fork_true, fork_false, sif_true, sif_false, aseq_normal, aseq_ret, aseq_exit, ablock_normal, ablock_ret, ablock_same, ablock_other, aend_ret, aend_normal, holdsVT_some, holdsT_some, dstep_call, dstep_0, dstep_1, dstep_2, dskip_0, dskip_1, dskip_2, pendOk_nil, pendOk_cons, pastOk_nil, pastOk_zero, pastOk_succ, ocls, fwanted, isUndef, Array.isEmpty, isUndef, acall, aop, fev, fset, upd_same, upd_ne, tget_zero, tget_succ, tget_nil, Nat.reduceBEq, fres, fresL, fres1, abox, anew, acells, afieldAddr, aload_ptr, aloadAt, get_app, get_app0, List.cons_append, List.nil_append, List.append_assoc, List.length_append, List.length_cons, List.length_nil, Nat.reduceSub, Nat.reduceAdd, List.set_cons_zero, List.set_cons_succ, List.getElem?_cons_zero, List.getElem?_cons_succ, deepFlat, flat1, flat, if_true, Option.map_some, Option.bind_some, Bool.false_eq_true, if_false, Nat.zero_add, beq_self_eq_true, Array.getElem?_toList, List.getElem?_toArray, false_implies, true_implies, and_true, true_and, b_true, b_false, Bool.not_true, Bool.not_false, reduceIte, Bool.true_and, Bool.false_and, Bool.and_true, Bool.and_false, get_app, get_app0, set_app, set_app0, astore, astores_eqN, astoreN, okCell, aput, List.all_cons, List.all_nil, afill, abuild, apart, afield, aextract, List.drop_zero, List.drop_succ_cons, List.drop_nil, List.take_zero, List.take_succ_cons, List.take_nil, List.map_cons, List.map_nil, List.length_set, List.size_toArray, Bool.and_self, and_self, Nat.add_le_add_iff_left, Nat.le_refl, Nat.reduceLeDiff, Nat.reduceLT, ne_eq, not_true_eq_false, not_false_eq_true, or_self, Option.map_none, Option.bind_none, Bool.and_eq_true, List.cons_ne_nil, gt_iff_lt, or_false, false_or, Nat.lt_irrefl, Nat.reduceEqDiff, acall, Nat.add_zero, List.replicate, List.flatten_cons, List.flatten_nil, Nat.reduceMul, Nat.zero_mul, Nat.one_mul, List.append_nil, Option.some.injEq, Try.results5, aes_32, tfield_32_3, tfield_32_4, tfield_32_5, tin_4, tin_3, bin_lss]
  all_goals exact List.prefix_append _ _

theorem aheadRef_calls (G : Nat) (h : Heap) (a b : OpT) : Does G Try.prog 7 [.agg a.cells.toArray, .agg b.cells.toArray] h fun r h' => r = .bool (a.ahead b) ∧ h' = h := by
  refine Does.drop rfl ?_
  refine Does.walk S7 mixed (by kernel_rfl) Try.func7 strip7 (by kernel_rfl) (by kernel_rfl) ?_
  simp only [OpT.ahead]
  unfold S7
  obtain ⟨t, c, an, done, frm, to⟩ := a
  cases done <;> simp -dsimp only [srun_seq, srun_reg, srun_draw, srun_ret, srun_skip, srun_cond, srun_block, srun_exit, srun_loop, sops_nil, sops_cons, sdr_nil, sdr_cons, sstep_call, sstep_op, fork_true, fork_false, sif_true, sif_false, aseq_normal, aseq_ret, aseq_exit, ablock_normal, ablock_ret, ablock_same, ablock_other, aend_ret, aend_normal, holdsVT_some, holdsT_some, dstep_call, dstep_0, dstep_1, dstep_2, dskip_0, dskip_1, dskip_2, pendOk_nil, pendOk_cons, pastOk_nil, pastOk_zero, pastOk_succ, ocls, fwanted, isUndef, Array.isEmpty, isUndef, acall, aop, fev, fset, upd_same, upd_ne, tget_zero, tget_succ, tget_nil, Nat.reduceBEq, fres, fresL, fres1, abox, anew, acells, afieldAddr, aload_ptr, aloadAt, get_app, get_app0, List.cons_append, List.nil_append, List.append_assoc, List.length_append, List.length_cons, List.length_nil, Nat.reduceSub, Nat.reduceAdd, List.set_cons_zero, List.set_cons_succ, List.getElem?_cons_zero, List.getElem?_cons_succ, deepFlat, flat1, flat, if_true, Option.map_some, Option.bind_some, Bool.false_eq_true, if_false, Nat.zero_add, beq_self_eq_true, Array.getElem?_toList, List.getElem?_toArray, false_implies, true_implies, and_true, true_and, b_true, b_false, Bool.not_true, Bool.not_false, reduceIte, Bool.true_and, Bool.false_and, Bool.and_true, Bool.and_false, get_app, get_app0, set_app, set_app0, astore, astores_eqN, astoreN, okCell, aput, List.all_cons, List.all_nil, afill, abuild, apart, afield, aextract, List.drop_zero, List.drop_succ_cons, List.drop_nil, List.take_zero, List.take_succ_cons, List.take_nil, List.map_cons, List.map_nil, List.length_set, List.size_toArray, Bool.and_self, and_self, Nat.add_le_add_iff_left, Nat.le_refl, Nat.reduceLeDiff, Nat.reduceLT, ne_eq, not_true_eq_false, not_false_eq_true, or_self, Option.map_none, Option.bind_none, Bool.and_eq_true, List.cons_ne_nil, gt_iff_lt, or_false, false_or, Nat.lt_irrefl, Nat.reduceEqDiff, acall, Nat.add_zero, List.replicate, List.flatten_cons, List.flatten_nil, Nat.reduceMul, Nat.zero_mul, Nat.one_mul, List.append_nil, Option.some.injEq, Try.results7, aes_29, tfield_29_3, tfield_29_4, tfield_29_5, tin_4, tin_3, bin_lss]
  all_goals exact List.prefix_append _ _
theorem give_calls (G : Nat) (h : Heap) (a : OpT) : Does G Try.prog 6 [.agg a.cells.toArray] h fun r h' => r = .agg a.cells.toArray ∧ h' = h := by
  refine Does.drop (by simp [old, old1, deepFlat, flat1, flat]) ?_
  refine Does.walk S6 mixed (by kernel_rfl) Try.func6 strip6 (by kernel_rfl) (by kernel_rfl) ?_
  unfold S6
  simp -dsimp only [srun_seq, srun_reg, srun_draw, srun_ret, srun_skip, srun_cond, srun_block, srun_exit, srun_loop, sops_nil, sops_cons, sdr_nil, sdr_cons, sstep_call, sstep_op, fork_true, fork_false, sif_true, sif_false, aseq_normal, aseq_ret, aseq_exit, ablock_normal, ablock_ret, ablock_same, ablock_other, aend_ret, aend_normal, holdsVT_some, holdsT_some, dstep_call, dstep_0, dstep_1, dstep_2, dskip_0, dskip_1, dskip_2, pendOk_nil, pendOk_cons, pastOk_nil, pastOk_zero, pastOk_succ, ocls, fwanted, isUndef, Array.isEmpty, isUndef, acall, aop, fev, fset, upd_same, upd_ne, tget_zero, tget_succ, tget_nil, Nat.reduceBEq, fres, fresL, fres1, abox, anew, acells, afieldAddr, aload_ptr, aloadAt, get_app, get_app0, List.cons_append, List.nil_append, List.append_assoc, List.length_append, List.length_cons, List.length_nil, Nat.reduceSub, Nat.reduceAdd, List.set_cons_zero, List.set_cons_succ, List.getElem?_cons_zero, List.getElem?_cons_succ, deepFlat, flat1, flat, if_true, Option.map_some, Option.bind_some, Bool.false_eq_true, if_false, Nat.zero_add, beq_self_eq_true, Array.getElem?_toList, List.getElem?_toArray, false_implies, true_implies, and_true, true_and, b_true, b_false, Bool.not_true, Bool.not_false, reduceIte, Bool.true_and, Bool.false_and, Bool.and_true, Bool.and_false, get_app, get_app0, set_app, set_app0, astore, astores_eqN, astoreN, okCell, aput, List.all_cons, List.all_nil, afill, abuild, apart, afield, aextract, List.drop_zero, List.drop_succ_cons, List.drop_nil, List.take_zero, List.take_succ_cons, List.take_nil, List.map_cons, List.map_nil, List.length_set, List.size_toArray, Bool.and_self, and_self, Nat.add_le_add_iff_left, Nat.le_refl, Nat.reduceLeDiff, Nat.reduceLT, ne_eq, not_true_eq_false, not_false_eq_true, or_self, Option.map_none, Option.bind_none, Bool.and_eq_true, List.cons_ne_nil, gt_iff_lt, or_false, false_or, Nat.lt_irrefl, Nat.reduceEqDiff, acall, Nat.add_zero, List.replicate, List.flatten_cons, List.flatten_nil, Nat.reduceMul, Nat.zero_mul, Nat.one_mul, List.append_nil, Option.some.injEq, Try.results6, aes_29, aes_32, tz_32, tin_32, tin_24, tin_27, tparts_32, tfield_29_0, tfield_29_1, tfield_29_2, tfield_29_3, tfield_29_4, tfield_29_5, tin_4, tin_3]
  exact List.prefix_append _ _

end Go.Proofs.Ytnhnelhcipafeaa.Ab
