/- Regions in their order, code, functions. -/
import Derived.Test.YtnhnelhcipafeaaAb10
import Derived.Orders
set_option linter.unusedSimpArgs false
set_option linter.unusedVariables false
namespace Go.Proofs.Ytnhnelhcipafeaa.Ab
open Go Go.RowKit

section
variable {G : Nat} {P : Program}

def enters (P : Program) (f : FuncId) : Bool :=
  match P.funcs[f]? with
  | some fn => !(fn.name == "runtime.NumGoroutine") && fn.body.isSome
  | none => false

/-- A call of f in this picture returns, and what it returns and the picture behind it are as Q says. -/
def Does (G : Nat) (P : Program) (f : FuncId) (args : List Value) (h : Heap) (Q : Value → Heap → Prop) : Prop :=
  enters P f = true ∧ ∀ (φ : Emb) (w : World) (cargs : Array Value), Sim G φ h w → VRs φ args cargs.toList →
    Calls P f cargs w fun e w' => ∃ v r h' φ', e = .returned v ∧ Q r h' ∧ VR φ' r v ∧ Post G φ h w φ' h' w'
theorem Does.mono {f : FuncId} {args : List Value} {h : Heap} {Q Q' : Value → Heap → Prop} (d : Does G P f args h Q) (hq : ∀ r h', Q r h' → Q' r h') : Does G P f args h Q' :=
  ⟨d.1, fun φ w cargs s hv => (d.2 φ w cargs s hv).mono fun e w' ⟨v, r, h', φ', a, b, c⟩ => ⟨v, r, h', φ', a, hq _ _ b, c⟩⟩

def acall (ev : Operand → Value) (o : Op) : Option (FuncId × List Value) :=
  match o with
  | .call { callee := .value f, args, .. } =>
    match ev f with
    | .func (.func k) first captured => some (k, first.toList ++ args.toList.map ev ++ captured.toList)
    | _ => none
  | _ => none
theorem acall_ok {ev ev' : Operand → Value} {o : Oper} {φ : Emb} (hev : ∀ x, VR φ (ev x) (ev' x)) {k : FuncId} {args : List Value} (h : acall ev o.op = some (k, args)) (he : enters P k = true) (w : World) :
    ∃ cargs : Array Value, (execOp ev' o).run P w = .ok (.enter k cargs) w ∧ VRs φ args cargs.toList := by
  obtain ⟨dst, op, ty, pos, after, guard⟩ := o
  simp only at h
  unfold acall at h
  split at h
  case h_2 => cases h
  rename_i f cargs0 ats
  split at h
  case h_2 => cases h
  rename_i k' first captured hf
  cases h
  have hfv := hev f
  rw [hf] at hfv
  obtain ⟨f', c', hf', h1, h2⟩ := hfv.func_inv
  unfold enters at he
  split at he
  case h_2 => cases he
  rename_i fn hfn
  simp only [Bool.and_eq_true, Bool.not_eq_true'] at he
  refine ⟨f' ++ cargs0.map ev' ++ c', ?_, ?_⟩
  · have hb : fn.body.isNone = false := by cases hbb : fn.body <;> simp_all
    simp only [execOp, resolve, hf', Deferred.ofValue, Sem.run_bind, Sem.run_pure, Result.andThen_ok, invoke, callFunc, run_program, hfn, he.1, Bool.false_eq_true, if_false, hb]
  · simp only [Array.toList_append, Array.toList_map]
    exact VRs.append (VRs.append h1 (VRs.map_eval hev _)) h2

def holds (x : Option (Value × Heap)) (K : Value → Heap → Prop) : Prop :=
  match x with
  | some (v, h) => K v h
  | none => False
@[simp] theorem holds_some (v : Value) (h : Heap) (K : Value → Heap → Prop) : holds (some (v, h)) K = K v h := rfl
theorem holds_iff {x : Option (Value × Heap)} {K : Value → Heap → Prop} : holds x K ↔ ∃ v h, x = some (v, h) ∧ K v h := by
  cases x with
  | none => simp [holds]
  | some p =>
    obtain ⟨v, h⟩ := p
    constructor
    · intro k; exact ⟨v, h, rfl, k⟩
    · rintro ⟨v', h', e, k⟩; cases e; exact k

/-- One operation. -/
def AStep (G : Nat) (P : Program) (ev : Operand → Value) (o : Op) (h : Heap) (K : Value → Heap → Prop) : Prop :=
  match acall ev o with
  | some (k, args) => Does G P k args h K
  | none => holds (aop G P ev o h) K

def isUndef : Value → Bool
  | .tuple vs => vs.isEmpty
  | _ => false
/-- Is the operation to be carried out? (A test that was not made wants neither.) -/
def awanted (ops : Array Oper) (T : List Value) (g : Option (Nat × Bool)) : Option Bool :=
  match g with
  | none => some true
  | some (j, want) => match ((ops[j]?).bind (·.dst)).bind (T[·]?) with
    | some (.bool b) => some (b == want)
    | some v => if isUndef v then some false else none
    | none => none
theorem awanted_ok {ops : Array Oper} {T : List Value} {a : Act} {φ : Emb} (hT : VRs φ T a.tmps.toList) {o : Oper} {b : Bool} (h : awanted ops T o.guard = some b) : Region.wanted o (yielded ops a.tmps) = b := by
  unfold awanted at h
  unfold Region.wanted
  split at h
  · rename_i hg; rw [hg]; cases h; rfl
  · rename_i j want hg
    rw [hg]
    simp only
    unfold yielded
    cases hd : (ops[j]?).bind (·.dst) with
    | none => rw [hd] at h; cases h
    | some d =>
      rw [hd] at h
      simp only [Option.bind_some] at h ⊢
      split at h
      · rename_i b' hb
        cases h
        obtain ⟨v', e, k⟩ := hT.get hb
        rw [Array.getElem?_toList] at e
        have := k.flat_inv rfl; subst this
        rw [e]
        cases b' <;> cases want <;> rfl
      · rename_i v hnb hb
        split at h
        case isFalse => cases h
        rename_i hu
        cases h
        obtain ⟨v', e, k⟩ := hT.get hb
        rw [Array.getElem?_toList] at e
        have hv : v' = .tuple #[] := by
          cases v with
          | tuple vs =>
            simp only [isUndef] at hu
            have : vs = #[] := by simpa using hu
            subst this
            cases k with
            | flt _ h => rfl
            | tuple _ c h =>
              cases hc : c.toList with
              | nil => rw [show c = #[] from by simpa using hc]
              | cons x r => rw [hc] at h; cases h
          | _ => simp [isUndef] at hu
        subst hv
        rw [e]; rfl
      · cases h

def aset (T : List Value) (d : Option Tmp) (v : Value) : List Value :=
  match d with
  | some d => T.set d v
  | none => T
theorem aset_ok {φ : Emb} {T : List Value} {a : Act} (hT : VRs φ T a.tmps.toList) (d : Option Tmp) {v v' : Value} (hv : VR φ v v') : VRs φ (aset T d v) (a.put d v').tmps.toList := by
  cases d with
  | none => exact hT
  | some d => simp only [aset, Act.put, Array.toList_setIfInBounds]; exact hT.set hv

/-- Operations one after the other. -/
def AOps (G : Nat) (P : Program) (ops : Array Oper) (Q : List Value → Heap → Prop) : List Oper → List Value → Heap → Prop
  | [], T, h => Q T h
  | o :: rest, T, h =>
    match awanted ops T o.guard with
    | some b => (b = true → AStep G P (aeval G T) o.op h fun v h' => AOps G P ops Q rest (aset T o.dst v) h') ∧ (b = false → AOps G P ops Q rest (aset T o.dst (.tuple #[])) h)
    | none => False

/-- Behind a piece of code. -/
def After (G : Nat) (φ : Emb) (h : Heap) (w : World) (Q : Exit → List Value → Heap → Prop) : Exit → Act → World → Prop :=
  fun ex a' w' => a'.defers = [] ∧ ∃ T' h' φ', Q ex T' h' ∧ VRs φ' T' a'.tmps.toList ∧ Post G φ h w φ' h' w'
theorem After.trans {φ φ1 : Emb} {h h1 : Heap} {w w1 : World} {Q Q' : Exit → List Value → Heap → Prop} (s : Sim G φ h w) (p : Post G φ h w φ1 h1 w1) (hq : ∀ e T h, Q e T h → Q' e T h) {e : Exit} {a : Act} {w' : World} (k : After G φ1 h1 w1 Q e a w') : After G φ h w Q' e a w' := by
  obtain ⟨d, T', h', φ', q, r, p'⟩ := k
  exact ⟨d, T', h', φ', hq _ _ _ q, r, Post.trans s p p'⟩

theorem wpOps_of {ops : Array Oper} {Q : List Value → Heap → Prop} : ∀ (l : List Nat) (T : List Value) (h : Heap) (φ : Emb) (w : World) (a : Act), (∀ i ∈ l, i < ops.size) → AOps G P ops Q (l.filterMap (ops[·]?)) T h → Sim G φ h w → VRs φ T a.tmps.toList → a.defers = [] →
    wpOps P ops (After G φ h w fun ex T h => ex = .normal ∧ Q T h) l a w := by
  intro l
  induction l with
  | nil =>
    intro T h φ w a _ hk s hT hd
    exact ⟨hd, T, h, φ, ⟨rfl, hk⟩, hT, Post.refl s⟩
  | cons i l ih =>
    intro T h φ w a hlt hk s hT hd
    have hi := hlt i (by simp)
    obtain ⟨o, ho⟩ : ∃ o, ops[i]? = some o := ⟨ops[i], by simp [hi]⟩
    simp only [List.filterMap_cons, ho, AOps] at hk
    rw [wpOps_cons]
    simp only [wpOp, ho]
    have next : ∀ (v v' : Value) (h' : Heap) (φ' : Emb) (w' : World), AOps G P ops Q (l.filterMap (ops[·]?)) (aset T o.dst v) h' → VR φ' v v' → Post G φ h w φ' h' w' →
        wpOps P ops (After G φ h w fun ex T h => ex = .normal ∧ Q T h) l (a.put o.dst v') w' := by
      intro v v' h' φ' w' hk hv p
      have := ih (aset T o.dst v) h' φ' w' (a.put o.dst v') (fun j hj => hlt j (by simp [hj])) hk p.sim (aset_ok (hT' hT p.ext) o.dst hv) (by cases o.dst <;> exact hd)
      exact wpOps_mono' this fun e a w k => After.trans s p (fun _ _ _ q => q) k
    cases hw : awanted ops T o.guard with
    | none => rw [hw] at hk; exact hk.elim
    | some b =>
      rw [hw] at hk
      have hwc := awanted_ok hT hw
      cases b with
      | false =>
        simp only [hwc, Bool.false_eq_true, if_false]
        exact next _ undef h φ w (hk.2 rfl) (.tuple _ _ .nil) (Post.refl s)
      | true =>
        simp only [hwc, if_true]
        left
        replace hk := hk.1 rfl
        unfold AStep at hk
        have hev := fun x => aeval_ok s hT (G := G) x
        split at hk
        · rename_i k args hc
          obtain ⟨cargs, hr, hargs⟩ := acall_ok (P := P) hev hc hk.1 w
          simp only [Oper.wp, hr, Oper.upon_enter]
          refine (hk.2 φ w cargs s hargs).mono ?_
          rintro e w' ⟨v, r, h', φ', rfl, hq, hv, p⟩
          exact next r v h' φ' w' hq hv p
        · rename_i hc
          obtain ⟨v, h', hop, hq⟩ := holds_iff.1 hk
          obtain ⟨n, v', w', φ', hr, hn, hv, p⟩ := aop_ok (P := P) s hev hop
          simp only [Oper.wp, hr]
          rcases hn with rfl | ⟨rfl, rfl⟩
          · exact next v v' h' φ' w' hq hv p
          · exact next v _ h' φ' w' hq hv p
where
  hT' {φ φ' : Emb} {T : List Value} {a : Act} (hT : VRs φ T a.tmps.toList) (hx : Ext φ φ') : VRs φ' T a.tmps.toList := hT.mono hx
  wpOps_mono' {ops : Array Oper} {Q Q' : Exit → Act → World → Prop} {l : List Nat} {a : Act} {w : World} (h : wpOps P ops Q l a w) (hq : ∀ e a w, Q e a w → Q' e a w) : wpOps P ops Q' l a w := by
    induction l generalizing a w with
    | nil => exact hq _ _ _ h
    | cons i l ih =>
      rw [wpOps_cons] at h ⊢
      unfold wpOp at h ⊢
      split at h
      · exact ih h
      · rename_i o ho
        try simp only [ho]
        split at h
        · rename_i hw
          simp only [hw, if_true]
          rcases h with h | ⟨h1, a0, w0, h2⟩
          · left
            unfold Oper.wp at *
            generalize (execOp a.eval o).run P w = r at *
            cases r with
            | ok n w' =>
              cases n <;> simp only [Oper.upon] at h ⊢ <;> first
                | exact ih h
                | exact Calls.mono h (fun e w'' he => by cases e <;> first | exact ih he | exact hq _ _ _ he | exact (let ⟨a0, w0, q⟩ := he; ⟨a0, w0, hq _ _ _ q⟩))
                | exact Rows.mono h (fun _ _ he => ih he)
            | halt x w' => cases x <;> simp only [Oper.upon] at h ⊢ <;> exact hq _ _ _ h
          · exact .inr ⟨h1, a0, w0, hq _ _ _ h2⟩
        · rename_i hw
          try simp only [hw]
          exact ih h

/-! ### code -/
def Aw (G : Nat) (P : Program) (c : Code) (Q : Exit → List Value → Heap → Prop) (T : List Value) (h : Heap) : Prop :=
  ∀ (φ : Emb) (w : World) (a : Act), Sim G φ h w → VRs φ T a.tmps.toList → a.defers = [] → c.wp P (After G φ h w Q) a w
variable {Q : Exit → List Value → Heap → Prop} {T : List Value} {h : Heap}
theorem Aw.mono {c : Code} {Q' : Exit → List Value → Heap → Prop} (k : Aw G P c Q T h) (hq : ∀ e T h, Q e T h → Q' e T h) : Aw G P c Q' T h :=
  fun φ w a s hT hd => wp_mono (k φ w a s hT hd) fun e a' w' ⟨d, T', h', φ', q, r⟩ => ⟨d, T', h', φ', hq _ _ _ q, r⟩
theorem Aw.region {id : Nat} {ops : Array Oper} (k : AOps G P ops (fun T h => Q .normal T h) ops.toList T h) : Aw G P (.region id ops false) Q T h := by
  intro φ w a s hT hd
  refine wp_region (wpOps_of.wpOps_mono' (wpOps_of (Q := fun T h => Q .normal T h) _ T h φ w a (fun i hi => List.mem_range.1 hi) ?_ s hT hd) ?_)
  · have : (List.range ops.size).filterMap (ops[·]?) = ops.toList := by
      apply List.ext_getElem?
      intro j
      have key : ∀ n, n ≤ ops.size → ((List.range n).filterMap (ops[·]?)) = ops.toList.take n := by
        intro n
        induction n with
        | zero => intro _; simp
        | succ n ih =>
          intro hn
          rw [List.range_succ, List.filterMap_append, ih (by omega), List.take_add_one]
          simp [show n < ops.size from by omega]
      rw [key _ (Nat.le_refl _), List.take_of_length_le (by simp)]
    rw [this]; exact k
  · rintro e a' w' ⟨d, T', h', φ', ⟨rfl, q⟩, r⟩
    exact ⟨d, T', h', φ', q, r⟩
/-- What a piece of code hands on to the next. -/
def ASeq (K : List Value → Heap → Prop) (Q : Exit → List Value → Heap → Prop) : Exit → List Value → Heap → Prop
  | .normal, T, h => K T h
  | e, T, h => Q e T h
theorem Aw.seq {x y : Code} (k : Aw G P x (ASeq (Aw G P y Q) Q) T h) : Aw G P (.seq x y) Q T h := by
  intro φ w a s hT hd
  refine wp_seq (wp_mono (k φ w a s hT hd) ?_)
  rintro e a' w' ⟨d, T', h', φ', q, r, p⟩
  cases e with
  | normal => exact wp_mono (q φ' w' a' p.sim r d) fun e a w k => After.trans s p (fun _ _ _ q => q) k
  | _ => exact ⟨d, T', h', φ', q, r, p⟩
theorem Aw.cond {c : Operand} {x y : Code} {t : Bool} (hc : aeval G T c = .bool t) (k : Aw G P (if t then x else y) Q T h) : Aw G P (.cond c x y) Q T h := by
  intro φ w a s hT hd
  have := aeval_ok s hT c
  rw [hc] at this
  exact wp_cond (this.flat_inv rfl) (k φ w a s hT hd)
theorem Aw.cond_split {c : Operand} {x y : Code} {t : Bool} (hc : aeval G T c = .bool t) (k1 : t = true → Aw G P x Q T h) (k2 : t = false → Aw G P y Q T h) : Aw G P (.cond c x y) Q T h := by
  cases t
  · exact Aw.cond hc (k2 rfl)
  · exact Aw.cond hc (k1 rfl)
theorem Aw.skip (k : Q .normal T h) : Aw G P .skip Q T h := fun φ w a s hT hd => wp_skip ⟨hd, T, h, φ, k, hT, Post.refl s⟩
theorem Aw.label {l : Nat} (k : Q .normal T h) : Aw G P (.label l) Q T h := fun φ w a s hT hd => wp_label ⟨hd, T, h, φ, k, hT, Post.refl s⟩
theorem Aw.ret (k : Q .ret T h) : Aw G P .ret Q T h := fun φ w a s hT hd => wp_ret ⟨hd, T, h, φ, k, hT, Post.refl s⟩
theorem Aw.exit {id : Nat} (k : Q (.exit id) T h) : Aw G P (.exit id) Q T h := fun φ w a s hT hd => wp_exit ⟨hd, T, h, φ, k, hT, Post.refl s⟩
def ABlock (id : Nat) (Q : Exit → List Value → Heap → Prop) : Exit → List Value → Heap → Prop
  | .exit id', T, h => if id' = id then Q .normal T h else Q (.exit id') T h
  | e, T, h => Q e T h
theorem Aw.block {id : Nat} {c : Code} (k : Aw G P c (ABlock id Q) T h) : Aw G P (.block id c) Q T h := by
  intro φ w a s hT hd
  refine wp_block (wp_mono (k φ w a s hT hd) ?_)
  rintro e a' w' ⟨d, T', h', φ', q, r⟩
  cases e with
  | exit id' =>
    simp only [Exit.inBlock, ABlock] at q ⊢
    split at q
    · rename_i e; rw [if_pos e]; exact ⟨d, T', h', φ', q, r⟩
    · rename_i e; rw [if_neg e]; exact ⟨d, T', h', φ', q, r⟩
  | _ => exact ⟨d, T', h', φ', q, r⟩
end
end Go.Proofs.Ytnhnelhcipafeaa.Ab
