/- Loops, functions. -/
import Derived.Test.YtnhnelhcipafeaaAb11
set_option linter.unusedSimpArgs false
set_option linter.unusedVariables false
namespace Go.Proofs.Ytnhnelhcipafeaa.Ab
open Go Go.RowKit

section
variable {G : Nat} {P : Program} {Q : Exit → List Value → Heap → Prop} {T : List Value} {h : Heap}

/-- A loop's round is about to begin. -/
def InLoop (P : Program) (c : Code) (Q : Exit → Act → World → Prop) (a : Act) (w : World) : Prop :=
  ∀ (b : Go.Frame) (k : List Item) (cs : List Go.Frame), ∃ e a' w', Q e a' w' ∧ Arrives P (lone (b.at a (.code c :: .inLoop c :: k)) cs w) b k cs e a' w'
theorem InLoop.wp {c : Code} {Q : Exit → Act → World → Prop} {a : Act} {w : World} (k : InLoop P c Q a w) : (Code.loop c).wp P Q a w := by
  intro b kk cs
  obtain ⟨e, a', w', hq, harr⟩ := k b kk cs
  exact ⟨e, a', w', hq, .of_steps (.one step_loop) harr⟩
theorem InLoop.round {c : Code} {Q : Exit → Act → World → Prop} {a : Act} {w : World} (hr : c.wp P (Exit.then (InLoop P c Q) Q) a w) : InLoop P c Q a w := by
  intro b k cs
  obtain ⟨e, a₁, w₁, hq, harr⟩ := hr b (.inLoop c :: k) cs
  cases e with
  | normal =>
    obtain ⟨e₂, a₂, w₂, hq₂, harr₂⟩ := hq b k cs
    exact ⟨e₂, a₂, w₂, hq₂, .of_steps (Steps.trans harr (.one step_inLoop)) harr₂⟩
  | exit id => exact ⟨_, a₁, w₁, hq, .pass (x := .inLoop c) rfl (fun _ _ => .inl (by simp)) harr⟩
  | goto l => exact ⟨_, a₁, w₁, hq, .pass (x := .inLoop c) rfl (fun _ _ => .inl (by simp)) harr⟩
  | ret => exact ⟨_, a₁, w₁, hq, .pass (x := .inLoop c) rfl (fun _ _ => .inl (by simp)) harr⟩
  | panic ch => exact ⟨_, a₁, w₁, hq, .pass (x := .inLoop c) rfl (fun _ _ => .inl (by simp)) harr⟩
  | outgrown => exact ⟨_, a₁, w₁, hq, .pass (x := .inLoop c) rfl (fun _ _ => .inl (by simp)) harr⟩

/-- The picture at a loop's head. -/
def ALoop (G : Nat) (P : Program) (c : Code) (Q : Exit → List Value → Heap → Prop) (T : List Value) (h : Heap) : Prop :=
  ∀ (φ : Emb) (w : World) (a : Act), Sim G φ h w → VRs φ T a.tmps.toList → a.defers = [] → InLoop P c (After G φ h w Q) a w
theorem InLoop.mono {c : Code} {Q Q' : Exit → Act → World → Prop} {a : Act} {w : World} (k : InLoop P c Q a w) (hq : ∀ e a w, Q e a w → Q' e a w) : InLoop P c Q' a w :=
  fun b kk cs => let ⟨e, a', w', q, r⟩ := k b kk cs; ⟨e, a', w', hq _ _ _ q, r⟩
theorem ALoop.aw {c : Code} (k : ALoop G P c Q T h) : Aw G P (.loop c) Q T h := fun φ w a s hT hd => (k φ w a s hT hd).wp
/-- One round, and then the loop again. -/
theorem ALoop.round {c : Code} (k : Aw G P c (ASeq (ALoop G P c Q) Q) T h) : ALoop G P c Q T h := by
  intro φ w a s hT hd
  refine InLoop.round (wp_mono (k φ w a s hT hd) ?_)
  rintro e a' w' ⟨d, T', h', φ', q, r, p⟩
  cases e with
  | normal => exact (q φ' w' a' p.sim r d).mono fun e a w k => After.trans s p (fun _ _ _ q => q) k
  | _ => exact ⟨d, T', h', φ', q, r, p⟩
/-- A loop with what holds at its head, and a measure. -/
theorem Aw.loop {c : Code} (I : List Value → Heap → Prop) (μ : List Value → Heap → Nat) (h0 : I T h)
    (round : ∀ T h, I T h → Aw G P c (ASeq (fun T' h' => I T' h' ∧ μ T' h' < μ T h) Q) T h) : Aw G P (.loop c) Q T h := by
  refine ALoop.aw ?_
  have key : ∀ n T h, μ T h = n → I T h → ALoop G P c Q T h := by
    intro n
    induction n using Nat.strongRecOn with
    | _ n ih =>
      intro T h hn hI
      refine ALoop.round ((round T h hI).mono ?_)
      intro e T' h' q
      cases e with
      | normal => exact ih _ (hn ▸ q.2) T' h' rfl q.1
      | _ => exact q
  exact key _ T h rfl h0
/-- A loop over a list of things to do: the head's picture by what is left. -/
theorem Aw.loop_on {α : Type} {c : Code} (I : α → List Value → Heap → Prop) (μ : α → Nat) (x : α) (h0 : I x T h)
    (round : ∀ x T h, I x T h → Aw G P c (ASeq (fun T' h' => ∃ y, I y T' h' ∧ μ y < μ x) Q) T h) : Aw G P (.loop c) Q T h := by
  refine ALoop.aw ?_
  have key : ∀ n x T h, μ x = n → I x T h → ALoop G P c Q T h := by
    intro n
    induction n using Nat.strongRecOn with
    | _ n ih =>
      intro x T h hn hI
      refine ALoop.round ((round x T h hI).mono ?_)
      intro e T' h' q
      cases e with
      | normal =>
        obtain ⟨y, hy, hlt⟩ := q
        exact ih _ (hn ▸ hlt) y T' h' rfl hy
      | _ => exact q
  exact key _ x T h rfl h0

/-- The picture's classes are in order. -/
theorem Aw.wf {c : Code} (k : WF h → Aw G P c Q T h) : Aw G P c Q T h := fun φ w a s hT hd => k s.wf φ w a s hT hd
theorem Does.wf {f : FuncId} {args : List Value} {R : Value → Heap → Prop} (he : enters P f = true) (k : WF h → Does G P f args h R) : Does G P f args h R :=
  ⟨he, fun φ w cargs s hv => (k s.wf).2 φ w cargs s hv⟩
/-! ### functions -/
def ares1 (P : Program) (T : List Value) (h : Heap) : ResultVar → Option Value
  | .tmp t => some (T.getD t (.tuple #[]))
  | .cell a t => match tin P t with
    | some k => aload k.1 k.2 (T.getD a (.tuple #[])) h
    | none => none
def aresL (P : Program) (T : List Value) (h : Heap) : List ResultVar → Option (List Value)
  | [] => some []
  | r :: rs => match ares1 P T h r, aresL P T h rs with
    | some v, some vs => some (v :: vs)
    | _, _ => none
def ares (P : Program) (T : List Value) (h : Heap) (rs : List ResultVar) : Option Value :=
  match aresL P T h rs with
  | some [v] => some v
  | some vs => some (.tuple vs.toArray)
  | none => none
theorem getD_ok {φ : Emb} {T : List Value} {a : Act} (hT : VRs φ T a.tmps.toList) (t : Nat) : VR φ (T.getD t (.tuple #[])) (a.tmps.getD t undef) := by
  cases e : T[t]? with
  | none =>
    have hlen := hT.length
    have : a.tmps.size ≤ t := by
      rw [List.getElem?_eq_none_iff] at e; simp at hlen; omega
    rw [List.getD_eq_getElem?_getD, e, Array.getD_eq_getD_getElem?, Array.getElem?_eq_none this]
    exact .tuple _ _ .nil
  | some v =>
    obtain ⟨v', e', k⟩ := hT.get e
    rw [List.getD_eq_getElem?_getD, e]
    rw [Array.getElem?_toList] at e'
    rw [Array.getD_eq_getD_getElem?, e']
    exact k
theorem aresL_ok {φ : Emb} {w : World} (s : Sim G φ h w) {a : Act} (hT : VRs φ T a.tmps.toList) (g : ResultVar → Sem Value) (g1 : ∀ t, g (.tmp t) = pure (a.tmps.getD t undef)) (g2 : ∀ x t, g (.cell x t) = do loadVar t (← asAddr (a.tmps.getD x undef))) :
    ∀ (rs : List ResultVar) (vs : List Value), aresL P T h rs = some vs → ∃ vs', (rs.mapM g).run P w = .ok vs' w ∧ VRs φ vs vs' := by
  intro rs
  induction rs with
  | nil => intro vs h; cases h; exact ⟨[], rfl, .nil⟩
  | cons r rs ih =>
    intro vs hv
    simp only [aresL] at hv
    split at hv
    case h_2 => cases hv
    rename_i v vs1 h1 h2
    cases hv
    obtain ⟨vs', e, k⟩ := ih vs1 h2
    have one : ∃ v', (g r).run P w = .ok v' w ∧ VR φ v v' := by
      cases r with
      | tmp t => cases h1; rw [g1]; exact ⟨_, rfl, getD_ok hT t⟩
      | cell x t =>
        simp only [ares1] at h1
        split at h1
        case h_2 => cases h1
        rename_i kk hk
        obtain ⟨v', r1, r2⟩ := aload_ok (P := P) hk s h1 (getD_ok hT x)
        refine ⟨v', ?_, r2⟩
        have hp := getD_ok hT x
        unfold aload at h1
        split at h1
        case h_2 => cases h1
        rename_i id o heq
        rw [heq] at hp
        obtain ⟨l, hl, hpe⟩ := hp.ptr_inv
        rw [hpe] at r1
        rw [g2, hpe]
        simp only [Instr.loadAt, Instr.sureAddr, Sem.run_bind, Sem.run_pure, Result.andThen_ok] at r1
        simp only [asAddr, Sem.run_bind, Sem.run_pure, Result.andThen_ok]
        exact r1
    obtain ⟨v', e1, k1⟩ := one
    refine ⟨v' :: vs', ?_, .cons _ _ _ _ k1 k⟩
    rw [List.mapM_cons]
    simp only [Sem.run_bind, e1, Result.andThen_ok, e, Sem.run_pure]
def resRun (a : Act) : ResultVar → Sem Value
  | .tmp t => pure (a.tmps.getD t undef)
  | .cell x t => do loadVar t (← asAddr (a.tmps.getD x undef))
theorem ares_ok {φ : Emb} {w : World} (s : Sim G φ h w) {a : Act} (hT : VRs φ T a.tmps.toList) {fn : Func} {v : Value} (hv : ares P T h fn.results.toList = some v) :
    ∃ v', (results fn a.tmps).run P w = .ok v' w ∧ VR φ v v' := by
  unfold ares at hv
  have fin : ∀ vs, aresL P T h fn.results.toList = some vs → ∃ vs' : List Value, VRs φ vs vs' ∧ (results fn a.tmps).run P w = .ok (if h : vs'.toArray.size = 1 then vs'.toArray[0] else .tuple vs'.toArray) w := by
    intro vs hvs
    obtain ⟨vs', e, k⟩ := aresL_ok (P := P) s hT (resRun a) (fun _ => rfl) (fun _ _ => rfl) _ _ hvs
    refine ⟨vs', k, ?_⟩
    have hr : results fn a.tmps = (do let vs ← fn.results.mapM (resRun a); pure (if h : vs.size = 1 then vs[0] else .tuple vs) : Sem Value) := by
      unfold results
      congr 1
    rw [hr, Sem.run_bind, Array.mapM_eq_mapM_toList, run_map', e]
    rfl
  split at hv
  · rename_i v1 hvs
    cases hv
    obtain ⟨vs', k, e⟩ := fin _ hvs
    cases k with
    | cons _ x _ r hx hr =>
      cases hr
      exact ⟨x, by simpa using e, hx⟩
  · rename_i vs hne hvs
    cases hv
    obtain ⟨vs', k, e⟩ := fin _ hvs
    refine ⟨.tuple vs'.toArray, ?_, .tuple _ _ (by simpa using k)⟩
    have hlen := k.length
    rw [dif_neg] at e
    · exact e
    · intro h1
      simp at h1
      rw [h1] at hlen
      obtain ⟨x, hx⟩ := List.length_eq_one_iff.1 hlen
      exact hne x hx
  · cases hv

/-- A function's end. -/
def AEnd (P : Program) (rs : List ResultVar) (R : Value → Heap → Prop) : Exit → List Value → Heap → Prop
  | .normal, T, h | .ret, T, h => ∃ v, ares P T h rs = some v ∧ R v h
  | _, _, _ => False
theorem Does.body {f : FuncId} {fn : Func} {c : Code} {args : List Value} {R : Value → Heap → Prop} (he : enters P f = true) (hf : P.funcs[f]? = some fn) (hb : fn.body = some c)
    (k : Aw G P c (AEnd P fn.results.toList R) (args ++ List.replicate (fn.ntmps - args.length) (.tuple #[])) h) : Does G P f args h R := by
  refine ⟨he, fun φ w cargs s hv => calls_of_wp hf hb ?_⟩
  have hlen := hv.length
  have hT : VRs φ (args ++ List.replicate (fn.ntmps - args.length) (.tuple #[])) (cargs ++ Array.replicate (fn.ntmps - cargs.size) undef).toList := by
    rw [Array.toList_append, Array.toList_replicate]
    refine VRs.append hv ?_
    rw [show cargs.size = args.length from by simp at hlen; exact hlen.symm]
    have : ∀ n, VRs φ (List.replicate n (.tuple #[])) (List.replicate n undef) := by
      intro n
      induction n with
      | zero => exact .nil
      | succ n ih => exact .cons _ _ _ _ (.tuple _ _ .nil) ih
    exact this _
  refine wp_mono (k φ w _ s hT rfl) ?_
  rintro e a' w' ⟨d, T', h', φ', q, r, p⟩
  cases e with
  | normal =>
    obtain ⟨v, hv, hR⟩ := q
    obtain ⟨v', e1, k1⟩ := ares_ok (P := P) p.sim r hv
    exact ⟨d, v', e1, v', v, h', φ', rfl, hR, k1, p⟩
  | ret =>
    obtain ⟨v, hv, hR⟩ := q
    obtain ⟨v', e1, k1⟩ := ares_ok (P := P) p.sim r hv
    exact ⟨d, v', e1, v', v, h', φ', rfl, hR, k1, p⟩
  | _ => exact q.elim

end
end Go.Proofs.Ytnhnelhcipafeaa.Ab
