/- The walk by rewriting, registers as a function. -/
import Derived.Test.YtnhnelhcipafeaaAb18
set_option linter.unusedSimpArgs false
set_option linter.unusedVariables false
namespace Go.Proofs.Ytnhnelhcipafeaa.Ab
open Go Go.RowKit

section
variable {G : Nat} {P : Program}
abbrev Reg := Nat → Value
def tget (T : List Value) : Reg := fun k => T.getD k (.tuple #[])
def upd (F : Reg) (d : Nat) (v : Value) : Reg := fun k => if k = d then v else F k
theorem upd_same (F : Reg) (d : Nat) (v : Value) : upd F d v d = v := if_pos rfl
theorem upd_ne (F : Reg) (d k : Nat) (v : Value) (hn : (k == d) = false) : upd F d v k = F k := if_neg (by simpa using hn)
theorem tget_zero (x : Value) (r : List Value) : tget (x :: r) 0 = x := Eq.trans rfl rfl
theorem tget_succ (x : Value) (r : List Value) (k : Nat) : tget (x :: r) (k + 1) = tget r k := Eq.trans rfl rfl
theorem tget_nil (k : Nat) : tget [] k = .tuple #[] := Eq.trans rfl rfl
def fev (G : Nat) (F : Reg) : Operand → Value
  | .tmp t => F t
  | .const v => if deepFlat v then v else junk
  | .global g => if g < G then .pointer (some ⟨g, 0, none⟩) else junk
  | .func f => .func (.func f) #[] #[]
theorem fev_eq (T : List Value) : fev G (tget T) = aeval G T := by funext x; cases x <;> rfl
def fset (F : Reg) : Option Tmp → Value → Reg
  | some d, v => upd F d v
  | none, _ => F
theorem fset_eq (T : List Value) (d : Option Tmp) (v : Value) (hd : ∀ k, d = some k → k < T.length) : fset (tget T) d v = tget (aset T d v) := by
  cases d with
  | none => rfl
  | some d =>
    funext k
    simp only [fset, upd, tget, aset, List.getD_eq_getElem?_getD, List.getElem?_set]
    by_cases e : k = d
    · subst e; simp [hd k rfl]
    · have e' : ¬ d = k := fun x => e x.symm
      simp [e, e']
theorem aset_len (T : List Value) (d : Option Tmp) (v : Value) : (aset T d v).length = T.length := by cases d <;> simp [aset]
def fwanted (F : Reg) : Option (Nat × Bool) → Option Bool
  | none => some true
  | some (d, want) => match F d with
    | .bool b => some (b == want)
    | v => if isUndef v then some false else none
theorem fwanted_eq {T : List Value} {g : Option (Nat × Bool)} {b : Option Bool} (hg : ∀ d w, g = some (d, w) → d < T.length) (h : fwanted (tget T) g = b) : swanted T g = b := by
  unfold fwanted at h
  unfold swanted
  split at h
  · exact h
  · rename_i d w
    have hd := hg d w rfl
    have : tget T d = T[d] := by simp [tget, hd]
    rw [this] at h
    simp only [List.getElem?_eq_getElem hd]
    rw [← h]
    cases T[d] <;> rfl
/-- Are all registers of the code among the n? -/
def regsO (n : Nat) (s : SOp) : Bool := (match s.d with | some d => decide (d < n) | none => true) && (match s.g with | some (d, _) => decide (d < n) | none => true)
def regs (n : Nat) : SCode → Bool
  | .reg l => l.all (regsO n)
  | .draw l => l.all (regsO n)
  | .seq a b => regs n a && regs n b
  | .cond _ a b => regs n a && regs n b
  | .block _ a => regs n a
  | .loop a => regs n a
  | .other _ => true
  | _ => true

def FSeq (K : Reg → Heap → Prop) (Q : Exit → Reg → Heap → Prop) : Exit → Reg → Heap → Prop
  | .normal, F, h => K F h
  | e, F, h => Q e F h
def FBlock (id : Nat) (Q : Exit → Reg → Heap → Prop) : Exit → Reg → Heap → Prop
  | .exit id', F, h => if id' = id then Q .normal F h else Q (.exit id') F h
  | e, F, h => Q e F h
def fres1 (P : Program) (F : Reg) (h : Heap) : ResultVar → Option Value
  | .tmp t => some (F t)
  | .cell a t => match tin P t with
    | some k => aload k.1 k.2 (F a) h
    | none => none
def fresL (P : Program) (F : Reg) (h : Heap) : List ResultVar → Option (List Value)
  | [] => some []
  | r :: rs => match fres1 P F h r, fresL P F h rs with
    | some v, some vs => some (v :: vs)
    | _, _ => none
def fres (P : Program) (F : Reg) (h : Heap) (rs : List ResultVar) : Option Value :=
  match fresL P F h rs with
  | some [v] => some v
  | some vs => some (.tuple vs.toArray)
  | none => none
theorem fres1_eq (T : List Value) (h : Heap) (r : ResultVar) : fres1 P (tget T) h r = ares1 P T h r := by cases r <;> rfl
theorem fresL_eq (T : List Value) (h : Heap) : ∀ rs, fresL P (tget T) h rs = aresL P T h rs
  | [] => rfl
  | r :: rs => by simp only [fresL, aresL, fres1_eq, fresL_eq T h rs]; cases ares1 P T h r <;> cases aresL P T h rs <;> rfl
theorem fres_eq (T : List Value) (h : Heap) (rs : List ResultVar) : fres P (tget T) h rs = ares P T h rs := by
  simp only [fres, ares, fresL_eq]
  cases aresL P T h rs with
  | none => rfl
  | some l => cases l with
    | nil => rfl
    | cons x r => cases r <;> rfl
def FEnd (P : Program) (rs : List ResultVar) (R : Value → Heap → Prop) : Exit → Reg → Heap → Prop
  | .normal, F, h | .ret, F, h => ∃ v, fres P F h rs = some v ∧ R v h
  | _, _, _ => False
/-- What is asked of registers, asked of a list of them. -/
def lift (n : Nat) (Q : Exit → Reg → Heap → Prop) : Exit → List Value → Heap → Prop := fun e T h => T.length = n ∧ Q e (tget T) h
def FOps (G : Nat) (P : Program) (Q : Reg → Heap → Prop) : List SOp → Reg → Heap → Prop
  | [], F, h => Q F h
  | s :: rest, F, h => Fork (fwanted F s.g) (AStep G P (fev G F) s.o h fun v h' => FOps G P Q rest (fset F s.d v) h') (FOps G P Q rest (fset F s.d (.tuple #[])) h)
def FDR (G : Nat) (P : Program) (K : Reg → Heap → Prop) : List SOp → Nat → List Heap → List (Nat × (Heap → Prop)) → Reg → Heap → Prop
  | [], _, _, _, F, h => K F h
  | s :: rest, c, past, pend, F, h => Fork (fwanted F s.g)
      (match acall (fev G F) s.o with
        | some (k, args) => CallD G P k args h fun v h1 => pendOk (c + 1) pend h1 ∧ FDR G P K rest (c + 1) (past ++ [h]) pend (fset F s.d v) h1
        | none => holds (aop G P (fev G F) s.o h) fun v h1 =>
          if ocls s.o = 2 then pendOk (c + 1) pend h1 ∧ FDR G P K rest (c + 1) (past ++ [h]) pend (fset F s.d v) h1
          else if ocls s.o = 1 then pastOk s.lo past (fun h => aop G P (fev G F) s.o h = some (v, h)) ∧
            FDR G P K rest c past (if c < s.hi then (s.hi, fun h => aop G P (fev G F) s.o h = some (v, h)) :: pend else pend) (fset F s.d v) h1
          else FDR G P K rest c past pend (fset F s.d v) h1)
      (if ocls s.o = 2 then FDR G P K rest (c + 1) (past ++ [h]) pend (fset F s.d (.tuple #[])) h else FDR G P K rest c past pend (fset F s.d (.tuple #[])) h)
def FRun (G : Nat) (P : Program) (n : Nat) : SCode → (Exit → Reg → Heap → Prop) → Reg → Heap → Prop
  | .skip, Q, F, h => Q .normal F h
  | .ret, Q, F, h => Q .ret F h
  | .exit id, Q, F, h => Q (.exit id) F h
  | .reg l, Q, F, h => FOps G P (fun F h => Q .normal F h) l F h
  | .draw l, Q, F, h => FDR G P (fun F h => Q .normal F h) l 0 [] [] F h
  | .seq a b, Q, F, h => FRun G P n a (FSeq (fun F h => FRun G P n b Q F h) Q) F h
  | .cond c x y, Q, F, h => match fev G F c with
    | .bool t => (t = true → FRun G P n x Q F h) ∧ (t = false → FRun G P n y Q F h)
    | _ => False
  | .block id c, Q, F, h => FRun G P n c (FBlock id Q) F h
  | .loop c, Q, F, h => ∀ c' T, regs n c = true → strip c' = c → T.length = n → tget T = F → Aw G P (.loop c') (lift n Q) T h
  | .other c, Q, F, h => ∀ T, T.length = n → tget T = F → Aw G P c (lift n Q) T h

theorem FOps.sops {n : Nat} {K : Reg → Heap → Prop} : ∀ (l : List SOp) (T : List Value) (h : Heap), l.all (regsO n) = true → T.length = n → FOps G P K l (tget T) h → SOps G P (fun T h => T.length = n ∧ K (tget T) h) l T h := by
  intro l
  induction l with
  | nil => intro T h _ hl k; exact ⟨hl, k⟩
  | cons s rest ih =>
    intro T h hr hl k
    simp only [List.all_cons, Bool.and_eq_true] at hr
    have hd : ∀ k, s.d = some k → k < T.length := by
      intro k e
      have := hr.1
      simp only [regsO, e, Bool.and_eq_true, decide_eq_true_eq] at this
      rw [hl]; exact this.1
    have hg : ∀ d w, s.g = some (d, w) → d < T.length := by
      intro d w e
      have := hr.1
      simp only [regsO, e, Bool.and_eq_true, decide_eq_true_eq] at this
      rw [hl]; exact this.2
    simp only [FOps, fev_eq, fset_eq T s.d _ hd] at k
    simp only [SOps]
    rw [fwanted_eq hg rfl]
    unfold Fork at k ⊢
    split at k
    · rename_i b hb
      refine ⟨fun e => ?_, fun e => ih _ _ hr.2 (by rw [aset_len]; exact hl) (k.2 e)⟩
      have := k.1 e
      unfold AStep at this ⊢
      split at this
      · exact this.mono fun v h' q => ih _ _ hr.2 (by rw [aset_len]; exact hl) q
      · obtain ⟨v, h', a, b⟩ := holds_iff.1 this
        exact holds_iff.2 ⟨v, h', a, ih _ _ hr.2 (by rw [aset_len]; exact hl) b⟩
    · exact k.elim
theorem FDR.sdr {n : Nat} {K : Reg → Heap → Prop} : ∀ (l : List SOp) (c : Nat) (past : List Heap) (pend : List (Nat × (Heap → Prop))) (T : List Value) (h : Heap), l.all (regsO n) = true → T.length = n → FDR G P K l c past pend (tget T) h → SDR G P (fun T h => T.length = n ∧ K (tget T) h) l c past pend T h := by
  intro l
  induction l with
  | nil => intro c past pend T h _ hl k; exact ⟨hl, k⟩
  | cons s rest ih =>
    intro c past pend T h hr hl k
    simp only [List.all_cons, Bool.and_eq_true] at hr
    have hd : ∀ k, s.d = some k → k < T.length := by
      intro k e
      have := hr.1
      simp only [regsO, e, Bool.and_eq_true, decide_eq_true_eq] at this
      rw [hl]; exact this.1
    have hg : ∀ d w, s.g = some (d, w) → d < T.length := by
      intro d w e
      have := hr.1
      simp only [regsO, e, Bool.and_eq_true, decide_eq_true_eq] at this
      rw [hl]; exact this.2
    have hl' : ∀ v, (aset T s.d v).length = n := fun v => by rw [aset_len]; exact hl
    simp only [FDR, fev_eq] at k
    simp only [SDR]
    rw [fwanted_eq hg rfl]
    unfold Fork at k ⊢
    split at k
    · rename_i b hb
      refine ⟨fun e => ?_, fun e => ?_⟩
      · have := k.1 e
        split at this
        · rename_i kf args hc
          rw [hc]
          obtain ⟨v, h1, d, p, q⟩ := this
          exact ⟨v, h1, d, p, ih _ _ _ _ _ hr.2 (hl' _) (by rw [← fset_eq T s.d _ hd]; exact q)⟩
        · rename_i hc
          rw [hc]
          obtain ⟨v, h', a, b⟩ := holds_iff.1 this
          refine holds_iff.2 ⟨v, h', a, ?_⟩
          split at b
          · rename_i h2; rw [if_pos h2]; exact ⟨b.1, ih _ _ _ _ _ hr.2 (hl' _) (by rw [← fset_eq T s.d _ hd]; exact b.2)⟩
          · rename_i h2
            rw [if_neg h2]
            split at b
            · rename_i h1; rw [if_pos h1]; exact ⟨b.1, ih _ _ _ _ _ hr.2 (hl' _) (by rw [← fset_eq T s.d _ hd]; exact b.2)⟩
            · rename_i h1; rw [if_neg h1]; exact ih _ _ _ _ _ hr.2 (hl' _) (by rw [← fset_eq T s.d _ hd]; exact b)
      · have := k.2 e
        split at this
        · rename_i h2; rw [if_pos h2]; exact ih _ _ _ _ _ hr.2 (hl' _) (by rw [← fset_eq T s.d _ hd]; exact this)
        · rename_i h2; rw [if_neg h2]; exact ih _ _ _ _ _ hr.2 (hl' _) (by rw [← fset_eq T s.d _ hd]; exact this)
    · exact k.elim
theorem FRun.aw {n : Nat} (hm : P.follows .mixedOrders = true) : ∀ (c : Code) (Q : Exit → Reg → Heap → Prop) (T : List Value) (h : Heap), regs n (strip c) = true → T.length = n → FRun G P n (strip c) Q (tget T) h → Aw G P c (lift n Q) T h := by
  intro c
  induction c with
  | skip => intro Q T h _ hl k; exact Aw.skip ⟨hl, k⟩
  | ret => intro Q T h _ hl k; exact Aw.ret ⟨hl, k⟩
  | exit id => intro Q T h _ hl k; exact Aw.exit ⟨hl, k⟩
  | region id ops draw =>
    intro Q T h hr hl k
    cases draw with
    | false =>
      simp only [strip] at k hr
      split at k
      · rename_i l he
        simp only [he, regs] at hr
        exact Aw.region (SOps.ops _ _ _ _ _ he (FOps.sops _ _ _ hr hl (by simpa only [FRun] using k)))
      · exact k T hl rfl
    | true =>
      simp only [strip] at k hr
      split at k
      · rename_i hok
        rw [if_pos hok] at hr
        split at k
        · rename_i l he
          simp only [he, regs] at hr
          exact Aw.open hm hok rfl (SDR.ops _ _ _ _ _ _ _ _ he (FDR.sdr _ _ _ _ _ _ hr hl (by simpa only [FRun] using k)))
        · exact k T hl rfl
      · exact k T hl rfl
  | seq a b iha ihb =>
    intro Q T h hr hl k
    simp only [strip, FRun] at k
    simp only [strip, regs, Bool.and_eq_true] at hr
    refine Aw.seq (Aw.mono (iha _ _ _ hr.1 hl k) ?_)
    rintro e T h ⟨hl, q⟩
    cases e with
    | normal => exact ihb _ _ _ hr.2 hl q
    | _ => exact ⟨hl, q⟩
  | cond c x y ihx ihy =>
    intro Q T h hr hl k
    simp only [strip, FRun] at k
    simp only [strip, regs, Bool.and_eq_true] at hr
    split at k
    case h_2 => exact k.elim
    rename_i t ht
    rw [fev_eq] at ht
    exact Aw.cond_split ht (fun e => ihx _ _ _ hr.1 hl (k.1 e)) (fun e => ihy _ _ _ hr.2 hl (k.2 e))
  | block id c ih =>
    intro Q T h hr hl k
    simp only [strip, FRun] at k
    simp only [strip, regs] at hr
    refine Aw.block (Aw.mono (ih _ _ _ hr hl k) ?_)
    rintro e T h ⟨hl, q⟩
    cases e with
    | exit id' =>
      simp only [FBlock] at q
      simp only [ABlock]
      split at q
      · rename_i e; rw [if_pos e]; exact ⟨hl, q⟩
      · rename_i e; rw [if_neg e]; exact ⟨hl, q⟩
    | _ => exact ⟨hl, q⟩
  | loop c ih => intro Q T h hr hl k; exact k c T (by simpa only [strip, regs] using hr) rfl hl rfl
  | _ => intro Q T h hr hl k; exact k T hl rfl

/-! ### the walk by rewriting: what is ahead is opened; what is behind hangs on a tag, so that rewriting lets it be -/
inductive Tag {α : Sort _} (a : α) : Type where
  | mk
variable {n : Nat} {Q : Exit → Reg → Heap → Prop} {K : Reg → Heap → Prop} {F F' : Reg} {h h' : Heap}
def FRunT (G : Nat) (P : Program) (n : Nat) (c : SCode) (Q : Exit → Reg → Heap → Prop) (F : Reg) (h : Heap) (_ : Tag c) (_ : Tag Q) : Prop := FRun G P n c Q F h
def FOpsT (G : Nat) (P : Program) (K : Reg → Heap → Prop) (l : List SOp) (F : Reg) (h : Heap) (_ : Tag K) (_ : Tag l) : Prop := FOps G P K l F h
def FDRT (G : Nat) (P : Program) (K : Reg → Heap → Prop) (l : List SOp) (c : Nat) (past : List Heap) (pend : List (Nat × (Heap → Prop))) (F : Reg) (h : Heap) (_ : Tag K) (_ : Tag l) : Prop := FDR G P K l c past pend F h
def ForkT (b : Option Bool) (x y : Prop) (_ : Tag x) (_ : Tag y) : Prop := Fork b x y
def SIfT (v : Value) (x y : Prop) (_ : Tag x) (_ : Tag y) : Prop :=
  match v with
  | .bool t => (t = true → x) ∧ (t = false → y)
  | _ => False
def holdsT (x : Option (Value × Heap)) (K : Value → Heap → Prop) (_ : Tag K) : Prop := holds x K
def DoesT (G : Nat) (P : Program) (f : FuncId) (args : List Value) (h : Heap) (K : Value → Heap → Prop) (_ : Tag K) : Prop := Does G P f args h K
def CallDT (G : Nat) (P : Program) (f : FuncId) (args : List Value) (h : Heap) (K : Value → Heap → Prop) (_ : Tag K) : Prop := CallD G P f args h K
def FSeqT (K : Reg → Heap → Prop) (Q : Exit → Reg → Heap → Prop) (_ : Tag K) (_ : Tag Q) : Exit → Reg → Heap → Prop := FSeq K Q
def FBlockT (id : Nat) (Q : Exit → Reg → Heap → Prop) (_ : Tag Q) : Exit → Reg → Heap → Prop := FBlock id Q
def FEndT (P : Program) (rs : List ResultVar) (R : Value → Heap → Prop) (_ : Tag R) : Exit → Reg → Heap → Prop := FEnd P rs R
def LoopT (G : Nat) (P : Program) (n : Nat) (c : SCode) (Q : Exit → Reg → Heap → Prop) (F : Reg) (h : Heap) (_ : Tag c) (_ : Tag Q) : Prop := ∀ c' T, regs n c = true → strip c' = c → T.length = n → tget T = F → Aw G P (.loop c') (lift n Q) T h
def SStepT (G : Nat) (P : Program) (ev : Operand → Value) (o : Op) (h : Heap) (c : Option (FuncId × List Value)) (K : Value → Heap → Prop) (_ : Tag ev) (_ : Tag o) (_ : Tag K) : Prop :=
  match c with
  | some (k, args) => Does G P k args h K
  | none => holds (aop G P ev o h) K
def DSkipT (k : Nat) (x y : Prop) (_ : Tag x) (_ : Tag y) : Prop := if k = 2 then x else y
def DStepT (G : Nat) (P : Program) (ev : Operand → Value) (o : Op) (lo hi : Nat) (c : Nat) (past : List Heap) (pend : List (Nat × (Heap → Prop))) (h : Heap) (cl : Option (FuncId × List Value)) (k : Nat)
    (K : Nat → List Heap → List (Nat × (Heap → Prop)) → Value → Heap → Prop) (_ : Tag ev) (_ : Tag o) (_ : Tag K) (_ : Tag pend) (_ : Tag past) : Prop :=
  match cl with
  | some (f, args) => CallD G P f args h fun v h1 => pendOk (c + 1) pend h1 ∧ K (c + 1) (past ++ [h]) pend v h1
  | none => holds (aop G P ev o h) fun v h1 =>
    if k = 2 then pendOk (c + 1) pend h1 ∧ K (c + 1) (past ++ [h]) pend v h1
    else if k = 1 then pastOk lo past (fun h => aop G P ev o h = some (v, h)) ∧ K c past (if c < hi then (hi, fun h => aop G P ev o h = some (v, h)) :: pend else pend) v h1
    else K c past pend v h1
def holdsVT (x : Option Value) (K : Value → Prop) (_ : Tag K) : Prop :=
  match x with
  | some v => K v
  | none => False

def aloadAt (g : Bool) (n o : Nat) : Option AObj → Option Value
  | some (.cells c _ _ _) => if g then (if o + n ≤ c.length then some (.agg ((c.drop o).take n).toArray) else none) else c[o]?
  | _ => none
theorem aload_ptr (g : Bool) (n id o : Nat) (h : Heap) : aload g n (.pointer (some ⟨id, o, none⟩)) h = aloadAt g n o h[id]? := by
  simp only [aload]
  cases h[id]? with
  | none => rfl
  | some x => cases x <;> rfl
theorem b_true (b : Bool) : (b == true) = b := by cases b <;> rfl
theorem b_false (b : Bool) : (b == false) = !b := by cases b <;> rfl
theorem fork_true {x y : Prop} {t1 : Tag x} {t2 : Tag y} : ForkT (some true) x y t1 t2 = x := by simp [ForkT, Fork]
theorem fork_false {x y : Prop} {t1 : Tag x} {t2 : Tag y} : ForkT (some false) x y t1 t2 = y := by simp [ForkT, Fork]
theorem fork_some {b : Bool} {x y : Prop} {t1 : Tag x} {t2 : Tag y} : ForkT (some b) x y t1 t2 = ((b = true → x) ∧ (b = false → y)) := Eq.trans rfl rfl
theorem srun_skip {t1 : Tag SCode.skip} {t2 : Tag Q} : FRunT G P n .skip Q F h t1 t2 = Q .normal F h := Eq.trans rfl rfl
theorem srun_ret {t1 : Tag SCode.ret} {t2 : Tag Q} : FRunT G P n .ret Q F h t1 t2 = Q .ret F h := Eq.trans rfl rfl
theorem srun_exit {id : Nat} {t1 : Tag (SCode.exit id)} {t2 : Tag Q} : FRunT G P n (.exit id) Q F h t1 t2 = Q (.exit id) F h := Eq.trans rfl rfl
theorem srun_reg {l : List SOp} {t1 : Tag (SCode.reg l)} {t2 : Tag Q} : FRunT G P n (.reg l) Q F h t1 t2 = FOpsT G P (fun F h => Q .normal F h) l F h .mk .mk := Eq.trans rfl rfl
theorem srun_draw {l : List SOp} {t1 : Tag (SCode.draw l)} {t2 : Tag Q} : FRunT G P n (.draw l) Q F h t1 t2 = FDRT G P (fun F h => Q .normal F h) l 0 [] [] F h .mk .mk := Eq.trans rfl rfl
theorem srun_seq {a b : SCode} {t1 : Tag (SCode.seq a b)} {t2 : Tag Q} : FRunT G P n (.seq a b) Q F h t1 t2 = FRunT G P n a (FSeqT (fun F h => FRunT G P n b Q F h .mk .mk) Q .mk .mk) F h .mk .mk := Eq.trans rfl rfl
theorem srun_block {id : Nat} {a : SCode} {t1 : Tag (SCode.block id a)} {t2 : Tag Q} : FRunT G P n (.block id a) Q F h t1 t2 = FRunT G P n a (FBlockT id Q .mk) F h .mk .mk := Eq.trans rfl rfl
theorem srun_loop {a : SCode} {t1 : Tag (SCode.loop a)} {t2 : Tag Q} : FRunT G P n (.loop a) Q F h t1 t2 = LoopT G P n a Q F h .mk .mk := Eq.trans rfl rfl
theorem srun_cond {c : Operand} {a b : SCode} {t1 : Tag (SCode.cond c a b)} {t2 : Tag Q} : FRunT G P n (.cond c a b) Q F h t1 t2 = SIfT (fev G F c) (FRunT G P n a Q F h .mk .mk) (FRunT G P n b Q F h .mk .mk) .mk .mk := by
  simp only [FRunT, FRun, SIfT]
theorem sif_true {x y : Prop} {t1 : Tag x} {t2 : Tag y} : SIfT (.bool true) x y t1 t2 = x := by simp [SIfT]
theorem sif_false {x y : Prop} {t1 : Tag x} {t2 : Tag y} : SIfT (.bool false) x y t1 t2 = y := by simp [SIfT]
theorem sif_bool {t : Bool} {x y : Prop} {t1 : Tag x} {t2 : Tag y} : SIfT (.bool t) x y t1 t2 = ((t = true → x) ∧ (t = false → y)) := Eq.trans rfl rfl
theorem sops_nil {t1 : Tag K} {t2 : Tag ([] : List SOp)} : FOpsT G P K [] F h t1 t2 = K F h := Eq.trans rfl rfl
theorem sops_cons {d : Option Nat} {o : Op} {g : Option (Nat × Bool)} {lo hi : Nat} {r : List SOp} {t1 : Tag K} {t2 : Tag (⟨d, o, g, lo, hi⟩ :: r : List SOp)} : FOpsT G P K (⟨d, o, g, lo, hi⟩ :: r) F h t1 t2 =
    ForkT (fwanted F g) (SStepT G P (fev G F) o h (acall (fev G F) o) (fun v h' => FOpsT G P K r (fset F d v) h' .mk .mk) .mk .mk .mk) (FOpsT G P K r (fset F d (.tuple #[])) h .mk .mk) .mk .mk := Eq.trans rfl rfl
theorem sstep_call {ev : Operand → Value} {o : Op} {k : FuncId} {args : List Value} {K : Value → Heap → Prop} {t1 : Tag ev} {t2 : Tag o} {t3 : Tag K} : SStepT G P ev o h (some (k, args)) K t1 t2 t3 = DoesT G P k args h K .mk := Eq.trans rfl rfl
theorem sstep_op {ev : Operand → Value} {o : Op} {K : Value → Heap → Prop} {t1 : Tag ev} {t2 : Tag o} {t3 : Tag K} : SStepT G P ev o h none K t1 t2 t3 = holdsT (aop G P ev o h) K .mk := Eq.trans rfl rfl
theorem holdsT_some {v : Value} {K : Value → Heap → Prop} {t : Tag K} : holdsT (some (v, h)) K t = K v h := Eq.trans rfl rfl
theorem sdr_nil {c : Nat} {past : List Heap} {pend : List (Nat × (Heap → Prop))} {t1 : Tag K} {t2 : Tag ([] : List SOp)} : FDRT G P K [] c past pend F h t1 t2 = K F h := Eq.trans rfl rfl
theorem sdr_cons {d : Option Nat} {o : Op} {g : Option (Nat × Bool)} {lo hi c : Nat} {past : List Heap} {pend : List (Nat × (Heap → Prop))} {r : List SOp} {t1 : Tag K} {t2 : Tag (⟨d, o, g, lo, hi⟩ :: r : List SOp)} : FDRT G P K (⟨d, o, g, lo, hi⟩ :: r) c past pend F h t1 t2 =
    ForkT (fwanted F g) (DStepT G P (fev G F) o lo hi c past pend h (acall (fev G F) o) (ocls o) (fun c past pend v h1 => FDRT G P K r c past pend (fset F d v) h1 .mk .mk) .mk .mk .mk .mk .mk)
      (DSkipT (ocls o) (FDRT G P K r (c + 1) (past ++ [h]) pend (fset F d (.tuple #[])) h .mk .mk) (FDRT G P K r c past pend (fset F d (.tuple #[])) h .mk .mk) .mk .mk) .mk .mk := Eq.trans rfl rfl
section
variable {ev : Operand → Value} {o : Op} {lo hi c : Nat} {past : List Heap} {pend : List (Nat × (Heap → Prop))} {KD : Nat → List Heap → List (Nat × (Heap → Prop)) → Value → Heap → Prop}
  {t1 : Tag ev} {t2 : Tag o} {t3 : Tag KD} {t4 : Tag pend} {t5 : Tag past}
theorem dstep_call {f : FuncId} {args : List Value} {k : Nat} : DStepT G P ev o lo hi c past pend h (some (f, args)) k KD t1 t2 t3 t4 t5 = CallDT G P f args h (fun v h1 => pendOk (c + 1) pend h1 ∧ KD (c + 1) (past ++ [h]) pend v h1) .mk := Eq.trans rfl rfl
theorem dstep_2 : DStepT G P ev o lo hi c past pend h none 2 KD t1 t2 t3 t4 t5 = holdsT (aop G P ev o h) (fun v h1 => pendOk (c + 1) pend h1 ∧ KD (c + 1) (past ++ [h]) pend v h1) .mk := by simp only [DStepT, if_true, holdsT]
theorem dstep_1 : DStepT G P ev o lo hi c past pend h none 1 KD t1 t2 t3 t4 t5 = holdsT (aop G P ev o h) (fun v h1 => pastOk lo past (fun h => aop G P ev o h = some (v, h)) ∧ KD c past (if c < hi then (hi, fun h => aop G P ev o h = some (v, h)) :: pend else pend) v h1) .mk := by
  simp only [DStepT, if_true, holdsT]
  rfl
theorem dstep_0 : DStepT G P ev o lo hi c past pend h none 0 KD t1 t2 t3 t4 t5 = holdsT (aop G P ev o h) (fun v h1 => KD c past pend v h1) .mk := Eq.trans rfl rfl
end
theorem dskip_2 {x y : Prop} {t1 : Tag x} {t2 : Tag y} : DSkipT 2 x y t1 t2 = x := Eq.trans rfl rfl
theorem dskip_1 {x y : Prop} {t1 : Tag x} {t2 : Tag y} : DSkipT 1 x y t1 t2 = y := Eq.trans rfl rfl
theorem dskip_0 {x y : Prop} {t1 : Tag x} {t2 : Tag y} : DSkipT 0 x y t1 t2 = y := Eq.trans rfl rfl
theorem pendOk_nil {n : Nat} : pendOk n [] h = True := Eq.trans rfl rfl
theorem pendOk_cons {n hi : Nat} {f : Heap → Prop} {r : List (Nat × (Heap → Prop))} : pendOk n ((hi, f) :: r) h = ((if n ≤ hi then f h else True) ∧ pendOk n r h) := Eq.trans rfl rfl
theorem pastOk_nil {n : Nat} {f : Heap → Prop} : pastOk n [] f = True := by cases n <;> exact Eq.trans rfl rfl
theorem pastOk_zero {f : Heap → Prop} {r : List Heap} : pastOk 0 (h :: r) f = (f h ∧ pastOk 0 r f) := Eq.trans rfl rfl
theorem pastOk_succ {n : Nat} {f : Heap → Prop} {r : List Heap} : pastOk (n + 1) (h :: r) f = pastOk n r f := Eq.trans rfl rfl
theorem aend_ret {rs : List ResultVar} {R : Value → Heap → Prop} {t : Tag R} : FEndT P rs R t .ret F h = holdsVT (fres P F h rs) (fun v => R v h) .mk := by
  simp only [FEndT, FEnd, holdsVT, eq_iff_iff]
  split
  · rename_i v hv; simp [hv]
  · rename_i hv; simp [hv]
theorem aend_normal {rs : List ResultVar} {R : Value → Heap → Prop} {t : Tag R} : FEndT P rs R t .normal F h = holdsVT (fres P F h rs) (fun v => R v h) .mk := by
  simp only [FEndT, FEnd, holdsVT, eq_iff_iff]
  split
  · rename_i v hv; simp [hv]
  · rename_i hv; simp [hv]
theorem holdsVT_some {v : Value} {K : Value → Prop} {t : Tag K} : holdsVT (some v) K t = K v := Eq.trans rfl rfl
theorem aseq_normal {t1 : Tag K} {t2 : Tag Q} : FSeqT K Q t1 t2 .normal F h = K F h := Eq.trans rfl rfl
theorem aseq_ret {t1 : Tag K} {t2 : Tag Q} : FSeqT K Q t1 t2 .ret F h = Q .ret F h := Eq.trans rfl rfl
theorem aseq_exit {id : Nat} {t1 : Tag K} {t2 : Tag Q} : FSeqT K Q t1 t2 (.exit id) F h = Q (.exit id) F h := Eq.trans rfl rfl
theorem ablock_normal {id : Nat} {t : Tag Q} : FBlockT id Q t .normal F h = Q .normal F h := Eq.trans rfl rfl
theorem ablock_ret {id : Nat} {t : Tag Q} : FBlockT id Q t .ret F h = Q .ret F h := Eq.trans rfl rfl
theorem ablock_same {id : Nat} {t : Tag Q} : FBlockT id Q t (.exit id) F h = Q .normal F h := by simp [FBlockT, FBlock]
theorem ablock_other {id id' : Nat} {t : Tag Q} (hne : (id' == id) = false) : FBlockT id Q t (.exit id') F h = Q (.exit id') F h := by
  have : ¬ id' = id := by simpa using hne
  simp [FBlockT, FBlock, this]

theorem tget_pad (args : List Value) (m : Nat) : tget (args ++ List.replicate m (.tuple #[])) = tget args := by
  funext k
  simp only [tget, List.getD_eq_getElem?_getD]
  by_cases e : k < args.length
  · rw [List.getElem?_append_left e]
  · rw [List.getElem?_append_right (by omega), List.getElem?_eq_none (by omega : args.length ≤ k), List.getElem?_replicate]
    split <;> rfl
theorem Does.walk {f : FuncId} {fn : Func} {args : List Value} {h : Heap} {R : Value → Heap → Prop} (S : SCode) (hm : P.follows .mixedOrders = true) (he : enters P f = true) (hf : P.funcs[f]? = some fn) (hS : fn.body.map strip = some S)
    (hn : Nat.ble args.length fn.ntmps = true) (hr : regs fn.ntmps S = true) (k : FRunT G P fn.ntmps S (FEndT P fn.results.toList R .mk) (tget args) h .mk .mk) : Does G P f args h R := by
  cases hb : fn.body with
  | none => rw [hb] at hS; cases hS
  | some c =>
    rw [hb] at hS
    simp only [Option.map_some, Option.some.injEq] at hS
    subst hS
    refine Does.body he hf hb (Aw.mono (FRun.aw (n := fn.ntmps) hm c _ _ _ hr (by rw [List.length_append, List.length_replicate]; have := Nat.le_of_ble_eq_true hn; omega) (by rw [tget_pad]; exact k)) ?_)
    rintro e T h ⟨hl, q⟩
    cases e with
    | normal => obtain ⟨v, a, b⟩ := q; exact ⟨v, by rw [← fres_eq]; exact a, b⟩
    | ret => obtain ⟨v, a, b⟩ := q; exact ⟨v, by rw [← fres_eq]; exact a, b⟩
    | _ => exact q

theorem CallDT.intro {f : FuncId} {args : List Value} {v : Value} {h1 : Heap} {K : Value → Heap → Prop} {t : Tag K} (d : Does G P f args h fun r h' => r = v ∧ h' = h1) (k : K v h1) : CallDT G P f args h K t := ⟨v, h1, d, k⟩
theorem DoesT.then {f : FuncId} {args : List Value} {v : Value} {h1 : Heap} {K : Value → Heap → Prop} {t : Tag K} (d : Does G P f args h fun r h' => r = v ∧ h' = h1) (k : K v h1) : DoesT G P f args h K t :=
  d.mono fun r h' e => by obtain ⟨rfl, rfl⟩ := e; exact k
theorem DoesT.of {f : FuncId} {args : List Value} {K R : Value → Heap → Prop} {t : Tag K} (d : Does G P f args h R) (k : ∀ v h', R v h' → K v h') : DoesT G P f args h K t := d.mono k
/-- A loop by what holds at its head. -/
theorem LoopT.inv {α : Type} {c : SCode} {t1 : Tag c} {t2 : Tag Q} (hm : P.follows .mixedOrders = true) (I : α → Reg → Heap → Prop) (μ : α → Nat) (x : α) (h0 : I x F h)
    (round : ∀ x F h, I x F h → FRunT G P n c (FSeqT (fun F' h' => ∃ y, I y F' h' ∧ μ y < μ x) Q .mk .mk) F h .mk .mk) : LoopT G P n c Q F h t1 t2 := by
  intro c' T hr hc hl hT
  subst hT
  refine Aw.loop_on (fun x T h => T.length = n ∧ I x (tget T) h) μ x ⟨hl, h0⟩ fun x T h hI => ?_
  have := round x (tget T) h hI.2
  subst hc
  refine Aw.mono (FRun.aw hm c' _ T h hr hI.1 this) ?_
  rintro e T h ⟨hl, q⟩
  cases e with
  | normal => obtain ⟨y, a, b⟩ := q; exact ⟨y, ⟨hl, a⟩, b⟩
  | _ => exact ⟨hl, q⟩
theorem holdsT_intro {x : Option (Value × Heap)} {v : Value} {K : Value → Heap → Prop} {t : Tag K} (e : x = some (v, h)) (k : K v h) : holdsT x K t := by rw [e]; exact k

end
end Go.Proofs.Ytnhnelhcipafeaa.Ab
