/- Code stripped of what a walk does not ask, and the walk over it by rewriting. -/
import Derived.Test.YtnhnelhcipafeaaAb16
set_option linter.unusedSimpArgs false
set_option linter.unusedVariables false
namespace Go.Proofs.Ytnhnelhcipafeaa.Ab
open Go Go.RowKit

/-- An operation: destination, what it does, the slot and the value of its guard, its window. -/
structure SOp where
  d : Option Nat
  o : Op
  g : Option (Nat × Bool)
  lo : Nat
  hi : Nat
inductive SCode where
  | skip | ret
  | exit (id : Nat)
  | reg (l : List SOp)
  | draw (l : List SOp)
  | seq (a b : SCode)
  | cond (c : Operand) (a b : SCode)
  | block (id : Nat) (a : SCode)
  | loop (a : SCode)
  | other (c : Code)

def sguard (ops : Array Oper) (o : Oper) : Option (Option (Nat × Bool)) :=
  match o.guard with
  | none => some none
  | some (j, w) => match (ops[j]?).bind (·.dst) with
    | some d => some (some (d, w))
    | none => none
def sops (ops : Array Oper) : List Oper → List (Nat × Nat) → Option (List SOp)
  | [], _ => some []
  | o :: r, ws => match sguard ops o, sops ops r ws.tail with
    | some g, some l => some (⟨o.dst, o.op, g, (ws.headD (0, 0)).1, (ws.headD (0, 0)).2⟩ :: l)
    | _, _ => none
def strip : Code → SCode
  | .skip => .skip
  | .ret => .ret
  | .exit id => .exit id
  | .region id ops false => match sops ops ops.toList [] with
    | some l => .reg l
    | none => .other (.region id ops false)
  | .region id ops true => if drawOk ops then match sops ops ops.toList (windows ops) with
      | some l => .draw l
      | none => .other (.region id ops true)
    else .other (.region id ops true)
  | .seq a b => .seq (strip a) (strip b)
  | .cond c a b => .cond c (strip a) (strip b)
  | .block id a => .block id (strip a)
  | .loop a => .loop (strip a)
  | c => .other c

section
variable {G : Nat} {P : Program}

def swanted (T : List Value) : Option (Nat × Bool) → Option Bool
  | none => some true
  | some (d, want) => match T[d]? with
    | some (.bool b) => some (b == want)
    | some v => if isUndef v then some false else none
    | none => none
/-- A test behind which the walk goes on in one way or the other. -/
def Fork (b : Option Bool) (x y : Prop) : Prop :=
  match b with
  | some b => (b = true → x) ∧ (b = false → y)
  | none => False
def SOps (G : Nat) (P : Program) (Q : List Value → Heap → Prop) : List SOp → List Value → Heap → Prop
  | [], T, h => Q T h
  | s :: rest, T, h => Fork (swanted T s.g) (AStep G P (aeval G T) s.o h fun v h' => SOps G P Q rest (aset T s.d v) h') (SOps G P Q rest (aset T s.d (.tuple #[])) h)
/-- A call in a region whose order is open: its answer must be the one. -/
def CallD (G : Nat) (P : Program) (k : FuncId) (args : List Value) (h : Heap) (K : Value → Heap → Prop) : Prop :=
  ∃ v h1, Does G P k args h (fun r h' => r = v ∧ h' = h1) ∧ K v h1
def SDR (G : Nat) (P : Program) (K : List Value → Heap → Prop) : List SOp → Nat → List Heap → List (Nat × (Heap → Prop)) → List Value → Heap → Prop
  | [], _, _, _, T, h => K T h
  | s :: rest, c, past, pend, T, h => Fork (swanted T s.g)
      (match acall (aeval G T) s.o with
        | some (k, args) => CallD G P k args h fun v h1 => pendOk (c + 1) pend h1 ∧ SDR G P K rest (c + 1) (past ++ [h]) pend (aset T s.d v) h1
        | none => holds (aop G P (aeval G T) s.o h) fun v h1 =>
          if ocls s.o = 2 then pendOk (c + 1) pend h1 ∧ SDR G P K rest (c + 1) (past ++ [h]) pend (aset T s.d v) h1
          else if ocls s.o = 1 then pastOk s.lo past (fun h => aop G P (aeval G T) s.o h = some (v, h)) ∧
            SDR G P K rest c past (if c < s.hi then (s.hi, fun h => aop G P (aeval G T) s.o h = some (v, h)) :: pend else pend) (aset T s.d v) h1
          else SDR G P K rest c past pend (aset T s.d v) h1)
      (if ocls s.o = 2 then SDR G P K rest (c + 1) (past ++ [h]) pend (aset T s.d (.tuple #[])) h else SDR G P K rest c past pend (aset T s.d (.tuple #[])) h)
def SRun (G : Nat) (P : Program) : SCode → (Exit → List Value → Heap → Prop) → List Value → Heap → Prop
  | .skip, Q, T, h => Q .normal T h
  | .ret, Q, T, h => Q .ret T h
  | .exit id, Q, T, h => Q (.exit id) T h
  | .reg l, Q, T, h => SOps G P (fun T h => Q .normal T h) l T h
  | .draw l, Q, T, h => SDR G P (fun T h => Q .normal T h) l 0 [] [] T h
  | .seq a b, Q, T, h => SRun G P a (ASeq (fun T h => SRun G P b Q T h) Q) T h
  | .cond c x y, Q, T, h => match aeval G T c with
    | .bool t => (t = true → SRun G P x Q T h) ∧ (t = false → SRun G P y Q T h)
    | _ => False
  | .block id c, Q, T, h => SRun G P c (ABlock id Q) T h
  | .loop c, Q, T, h => ∀ c', strip c' = c → Aw G P (.loop c') Q T h
  | .other c, Q, T, h => Aw G P c Q T h

theorem swanted_eq {ops : Array Oper} {o : Oper} {g : Option (Nat × Bool)} (hg : sguard ops o = some g) (T : List Value) : swanted T g = awanted ops T o.guard := by
  unfold sguard at hg
  unfold awanted
  cases ho : o.guard with
  | none => rw [ho] at hg; cases hg; rfl
  | some jw =>
    obtain ⟨j, w⟩ := jw
    rw [ho] at hg
    simp only at hg
    split at hg
    · rename_i d hd
      cases hg
      simp only [swanted, hd, Option.bind_some]
      rfl
    · cases hg
theorem SOps.ops {ops : Array Oper} {Q : List Value → Heap → Prop} : ∀ (l : List Oper) (ws : List (Nat × Nat)) (sl : List SOp) (T : List Value) (h : Heap), sops ops l ws = some sl → SOps G P Q sl T h → AOps G P ops Q l T h := by
  intro l
  induction l with
  | nil => intro ws sl T h hs k; cases hs; simpa [AOps, SOps] using k
  | cons o r ih =>
    intro ws sl T h hs k
    simp only [sops] at hs
    split at hs
    case h_2 => cases hs
    rename_i g l hg hl
    cases hs
    simp only [SOps, swanted_eq hg] at k
    simp only [AOps]
    unfold Fork at k
    split at k
    · rename_i b hb
      rw [hb]
      refine ⟨fun e => ?_, fun e => ih _ _ _ _ hl (k.2 e)⟩
      have := k.1 e
      unfold AStep at this ⊢
      split at this
      · exact this.mono fun _ _ q => ih _ _ _ _ hl q
      · obtain ⟨v, h', a, b⟩ := holds_iff.1 this
        exact holds_iff.2 ⟨v, h', a, ih _ _ _ _ hl b⟩
    · exact k.elim
theorem SDR.ops {ops : Array Oper} {K : List Value → Heap → Prop} : ∀ (l : List Oper) (ws : List (Nat × Nat)) (sl : List SOp) (c : Nat) (past : List Heap) (pend : List (Nat × (Heap → Prop))) (T : List Value) (h : Heap), sops ops l ws = some sl → SDR G P K sl c past pend T h → DR G P ops K (zipW l ws) c past pend T h := by
  intro l
  induction l with
  | nil => intro ws sl c past pend T h hs k; cases hs; simpa [DR, SDR, zipW] using k
  | cons o r ih =>
    intro ws sl c past pend T h hs k
    simp only [sops] at hs
    split at hs
    case h_2 => cases hs
    rename_i g l hg hl
    cases hs
    have hz : zipW (o :: r) ws = (o, (ws.headD (0, 0)).1, (ws.headD (0, 0)).2) :: zipW r ws.tail := by cases ws <;> rfl
    rw [hz]
    simp only [SDR, swanted_eq hg] at k
    simp only [DR]
    unfold Fork at k
    split at k
    · rename_i b hb
      rw [hb]
      refine ⟨fun e => ?_, fun e => ?_⟩
      · have := k.1 e
        split at this
        · rename_i kf args hc
          rw [hc]
          obtain ⟨v, h1, d, p, q⟩ := this
          exact ⟨v, h1, d, p, ih _ _ _ _ _ _ _ hl q⟩
        · rename_i hc
          rw [hc]
          obtain ⟨v, h', a, b⟩ := holds_iff.1 this
          refine holds_iff.2 ⟨v, h', a, ?_⟩
          split at b
          · rename_i h2; rw [if_pos h2]; exact ⟨b.1, ih _ _ _ _ _ _ _ hl b.2⟩
          · rename_i h2
            rw [if_neg h2]
            split at b
            · rename_i h1; rw [if_pos h1]; exact ⟨b.1, ih _ _ _ _ _ _ _ hl b.2⟩
            · rename_i h1; rw [if_neg h1]; exact ih _ _ _ _ _ _ _ hl b
      · have := k.2 e
        split at this
        · rename_i h2; rw [if_pos h2]; exact ih _ _ _ _ _ _ _ hl this
        · rename_i h2; rw [if_neg h2]; exact ih _ _ _ _ _ _ _ hl this
    · exact k.elim
theorem SRun.aw (hm : P.follows .mixedOrders = true) : ∀ (c : Code) (Q : Exit → List Value → Heap → Prop) (T : List Value) (h : Heap), SRun G P (strip c) Q T h → Aw G P c Q T h := by
  intro c
  induction c with
  | skip => intro Q T h k; exact Aw.skip k
  | ret => intro Q T h k; exact Aw.ret k
  | exit id => intro Q T h k; exact Aw.exit k
  | region id ops draw =>
    intro Q T h k
    cases draw with
    | false =>
      simp only [strip] at k
      split at k
      · rename_i l hl; exact Aw.region (SOps.ops _ _ _ _ _ hl (by simpa only [SRun] using k))
      · exact k
    | true =>
      simp only [strip] at k
      split at k
      · rename_i hok
        split at k
        · rename_i l hl; exact Aw.open hm hok rfl (SDR.ops _ _ _ _ _ _ _ _ hl (by simpa only [SRun] using k))
        · exact k
      · exact k
  | seq a b iha ihb =>
    intro Q T h k
    simp only [strip, SRun] at k
    refine Aw.seq (Aw.mono (iha _ _ _ k) ?_)
    intro e T h q
    cases e with
    | normal => exact ihb _ _ _ q
    | _ => exact q
  | cond c x y ihx ihy =>
    intro Q T h k
    simp only [strip, SRun] at k
    split at k
    case h_2 => exact k.elim
    rename_i t ht
    exact Aw.cond_split ht (fun e => ihx _ _ _ (k.1 e)) (fun e => ihy _ _ _ (k.2 e))
  | block id c ih => intro Q T h k; exact Aw.block (ih _ _ _ (by simpa only [strip, SRun] using k))
  | loop c ih => intro Q T h k; exact k c rfl
  | _ => intro Q T h k; exact k

end
end Go.Proofs.Ytnhnelhcipafeaa.Ab
