/- Regions of open order as one walks them; whole code as one walks it. -/
import Derived.Test.YtnhnelhcipafeaaAb14
set_option linter.unusedSimpArgs false
set_option linter.unusedVariables false
namespace Go.Proofs.Ytnhnelhcipafeaa.Ab
open Go Go.RowKit

section
variable {G : Nat} {P : Program}

def pendOk (n : Nat) : List (Nat × (Heap → Prop)) → Heap → Prop
  | [], _ => True
  | (hi, f) :: r, h => (if n ≤ hi then f h else True) ∧ pendOk n r h
def pastOk : Nat → List Heap → (Heap → Prop) → Prop
  | _, [], _ => True
  | 0, h :: r, f => f h ∧ pastOk 0 r f
  | lo + 1, _ :: r, f => pastOk lo r f
/-- The text's order, each reading held against the heaps that it may meet. -/
def DR (G : Nat) (P : Program) (ops : Array Oper) (K : List Value → Heap → Prop) : List (Oper × Nat × Nat) → Nat → List Heap → List (Nat × (Heap → Prop)) → List Value → Heap → Prop
  | [], _, _, _, T, h => K T h
  | (o, lo, hi) :: rest, c, past, pend, T, h =>
    match awanted ops T o.guard with
    | some b => (b = true →
        match acall (aeval G T) o.op with
        | some (k, args) => ∃ v h1, Does G P k args h (fun r h' => r = v ∧ h' = h1) ∧ pendOk (c + 1) pend h1 ∧ DR G P ops K rest (c + 1) (past ++ [h]) pend (aset T o.dst v) h1
        | none => holds (aop G P (aeval G T) o.op h) fun v h1 =>
          if ocls o.op = 2 then pendOk (c + 1) pend h1 ∧ DR G P ops K rest (c + 1) (past ++ [h]) pend (aset T o.dst v) h1
          else if ocls o.op = 1 then pastOk lo past (fun h => aop G P (aeval G T) o.op h = some (v, h)) ∧
            DR G P ops K rest c past (if c < hi then (hi, fun h => aop G P (aeval G T) o.op h = some (v, h)) :: pend else pend) (aset T o.dst v) h1
          else DR G P ops K rest c past pend (aset T o.dst v) h1) ∧
      (b = false → if ocls o.op = 2 then DR G P ops K rest (c + 1) (past ++ [h]) pend (aset T o.dst (.tuple #[])) h else DR G P ops K rest c past pend (aset T o.dst (.tuple #[])) h)
    | none => False

theorem pendOk_mem {n : Nat} : ∀ {l : List (Nat × (Heap → Prop))} {h : Heap}, pendOk n l h → ∀ p ∈ l, n ≤ p.1 → p.2 h
  | [], _, _, p, hp, _ => by simp at hp
  | (hi, f) :: r, h, k, p, hp, hn => by
    simp only [List.mem_cons] at hp
    rcases hp with rfl | hp
    · have := k.1; rwa [if_pos hn] at this
    · exact pendOk_mem k.2 p hp hn
theorem pastOk_get : ∀ {lo : Nat} {l : List Heap} {f : Heap → Prop}, pastOk lo l f → ∀ j h, lo ≤ j → l[j]? = some h → f h
  | lo, [], f, _, j, h, _, hj => by simp at hj
  | 0, x :: r, f, k, 0, h, _, hj => by simp at hj; exact hj ▸ k.1
  | 0, x :: r, f, k, j + 1, h, _, hj => pastOk_get k.2 j h (Nat.zero_le _) (by simpa using hj)
  | lo + 1, x :: r, f, k, j + 1, h, hl, hj => pastOk_get (lo := lo) k j h (by omega) (by simpa using hj)
  | lo + 1, x :: r, f, k, 0, h, hl, _ => by omega

/-- The heap behind so many. -/
def heapAt (past : List Heap) (tr : List Ent) (hf : Heap) (c j : Nat) : Heap := if j < c then past.getD j [] else hat tr hf (j - c)
def ReadsAll (G : Nat) (P : Program) (past : List Heap) (tr : List Ent) (hf : Heap) (c : Nat) : List Ent → List (Oper × Nat × Nat) → Prop
  | e :: r, (_, lo, hi) :: l => (ocls e.o.op = 1 → e.on = true → ∀ j, lo ≤ j → j ≤ hi → aop G P (aeval G e.T) e.o.op (heapAt past tr hf c j) = some (e.v, heapAt past tr hf c j)) ∧ ReadsAll G P past tr hf c r l
  | _, _ => True
theorem ReadsAll.congr {past past' : List Heap} {tr tr' : List Ent} {hf : Heap} {c c' : Nat} (h : ∀ j, heapAt past tr hf c j = heapAt past' tr' hf c' j) : ∀ (r : List Ent) (l : List (Oper × Nat × Nat)), ReadsAll G P past tr hf c r l → ReadsAll G P past' tr' hf c' r l
  | [], _, k => by cases ‹List (Oper × Nat × Nat)› <;> trivial
  | _ :: _, [], _ => trivial
  | e :: r, (_, lo, hi) :: l, k => ⟨fun a b j g1 g2 => by rw [← h j]; exact k.1 a b j g1 g2, ReadsAll.congr h r l k.2⟩
theorem heapAt_turn {past : List Heap} {e : Ent} {tr : List Ent} {hf h : Heap} {c : Nat} (hp : past.length = c) (hae : e.ae = true) (hh : e.h = h) (j : Nat) : heapAt (past ++ [h]) tr hf (c + 1) j = heapAt past (e :: tr) hf c j := by
  unfold heapAt
  by_cases h1 : j < c
  · rw [if_pos (by omega), if_pos h1, List.getD_eq_getElem?_getD, List.getElem?_append_left (by omega), ← List.getD_eq_getElem?_getD]
  · rw [if_neg h1]
    by_cases h2 : j = c
    · subst h2
      rw [if_pos (by omega), List.getD_eq_getElem?_getD, List.getElem?_append_right (by omega)]
      simp [hp, hat, hae, hh]
    · rw [if_neg (by omega)]
      obtain ⟨m, rfl⟩ : ∃ m, j = c + 1 + m := ⟨j - (c + 1), by omega⟩
      rw [show c + 1 + m - (c + 1) = m from by omega, show c + 1 + m - c = m + 1 from by omega]
      simp only [hat, hae, if_true]
theorem heapAt_still {past : List Heap} {e : Ent} {tr : List Ent} {hf : Heap} {c : Nat} (hae : e.ae = false) (j : Nat) : heapAt past tr hf c j = heapAt past (e :: tr) hf c j := by
  unfold heapAt
  simp [hat, hae]
theorem DR.trace {ops : Array Oper} {K : List Value → Heap → Prop} : ∀ (l : List (Oper × Nat × Nat)) (c : Nat) (past : List Heap) (pend : List (Nat × (Heap → Prop))) (T : List Value) (h : Heap), DR G P ops K l c past pend T h → past.length = c → (∀ p ∈ pend, c ≤ p.1 → p.2 h) →
    ∃ tr Tf hf, K Tf hf ∧ tr.map (·.o) = l.map (·.1) ∧ TraceOk G P ops T h tr Tf hf ∧ ReadsAll G P past tr hf c tr l ∧ ∀ p ∈ pend, ∀ j, c ≤ j → j ≤ p.1 → p.2 (heapAt past tr hf c j) := by
  intro l
  induction l with
  | nil =>
    intro c past pend T h k hp hpend
    refine ⟨[], T, h, by simpa [DR] using k, rfl, ⟨rfl, rfl⟩, trivial, fun p hp2 j hj hj2 => ?_⟩
    unfold heapAt
    rw [if_neg (by omega)]
    exact hpend p hp2 (by omega)
  | cons x rest ih =>
    intro c past pend T h k hp hpend
    obtain ⟨o, lo, hi⟩ := x
    simp only [DR] at k
    -- an operation that turns memory
    have turn : ∀ (e : Ent) (h1 : Heap), e.o = o → e.T = T → e.h = h → StepOk G P ops e h1 → ocls o.op = 2 → (∀ p ∈ pend, c + 1 ≤ p.1 → p.2 h1) → DR G P ops K rest (c + 1) (past ++ [h]) pend (aset T o.dst e.v) h1 →
        ∃ tr Tf hf, K Tf hf ∧ tr.map (·.o) = o :: rest.map (·.1) ∧ TraceOk G P ops T h tr Tf hf ∧ ReadsAll G P past tr hf c tr ((o, lo, hi) :: rest) ∧ ∀ p ∈ pend, ∀ j, c ≤ j → j ≤ p.1 → p.2 (heapAt past tr hf c j) := by
      intro e h1 he hT hh hs hc hpo hk
      obtain ⟨tr, Tf, hf, g1, g2, g3, g4, g5⟩ := ih (c + 1) (past ++ [h]) pend _ h1 hk (by simp [hp]) hpo
      have hae : e.ae = true := by simp [Ent.ae, he, hc]
      have heq := fun j => heapAt_turn (tr := tr) (hf := hf) hp hae hh j
      refine ⟨e :: tr, Tf, hf, g1, by simp [he, g2], ⟨hT, hh, h1, hs, by rw [he]; exact g3⟩, ⟨fun h1c => (by rw [he, hc] at h1c; cases h1c), ReadsAll.congr heq _ _ g4⟩, fun p hp2 j hj hj2 => ?_⟩
      rw [← heq j]
      by_cases hjc : j = c
      · subst hjc
        unfold heapAt
        rw [if_pos (by omega), List.getD_eq_getElem?_getD, List.getElem?_append_right (by omega)]
        simpa [hp] using hpend p hp2 hj2
      · exact g5 p hp2 j (by omega) hj2
    -- one that does not
    have still : ∀ (e : Ent) (pend' : List (Nat × (Heap → Prop))), e.o = o → e.T = T → e.h = h → StepOk G P ops e h → ocls o.op ≠ 2 → (∀ p ∈ pend', c ≤ p.1 → p.2 h) → (∀ p ∈ pend, p ∈ pend') →
        (ocls o.op = 1 → e.on = true → pastOk lo past (fun h => aop G P (aeval G T) o.op h = some (e.v, h)) ∧ aop G P (aeval G T) o.op h = some (e.v, h) ∧ (c < hi → (hi, fun h => aop G P (aeval G T) o.op h = some (e.v, h)) ∈ pend')) →
        DR G P ops K rest c past pend' (aset T o.dst e.v) h →
        ∃ tr Tf hf, K Tf hf ∧ tr.map (·.o) = o :: rest.map (·.1) ∧ TraceOk G P ops T h tr Tf hf ∧ ReadsAll G P past tr hf c tr ((o, lo, hi) :: rest) ∧ ∀ p ∈ pend, ∀ j, c ≤ j → j ≤ p.1 → p.2 (heapAt past tr hf c j) := by
      intro e pend' he hT hh hs hc hpe hsub hread hk
      obtain ⟨tr, Tf, hf, g1, g2, g3, g4, g5⟩ := ih c past pend' _ h hk hp hpe
      have hae : e.ae = false := by simp [Ent.ae, he, hc]
      have heq := fun j => heapAt_still (past := past) (tr := tr) (hf := hf) (c := c) hae j
      refine ⟨e :: tr, Tf, hf, g1, by simp [he, g2], ⟨hT, hh, h, hs, by rw [he]; exact g3⟩, ⟨fun h1c hon j hj hj2 => ?_, ReadsAll.congr heq _ _ g4⟩, fun p hp2 j hj hj2 => ?_⟩
      · rw [← heq j, hT, he]
        rw [he] at h1c
        obtain ⟨r1, r2, r3⟩ := hread h1c hon
        by_cases hjc : j < c
        · unfold heapAt
          rw [if_pos hjc]
          exact pastOk_get r1 j _ hj (by rw [List.getD_eq_getElem?_getD, List.getElem?_eq_getElem (by omega)]; rfl)
        · by_cases hch : c < hi
          · exact g5 _ (r3 hch) j (by omega) hj2
          · have : j = c := by omega
            subst this
            unfold heapAt
            rw [if_neg (by omega), Nat.sub_self, hat_zero tr _ _ _ _ g3]
            exact r2
      · rw [← heq j]; exact g5 p (hsub p hp2) j hj hj2
    cases hw : awanted ops T o.guard with
    | none => rw [hw] at k; exact k.elim
    | some b =>
    rw [hw] at k
    cases b with
    | false =>
      replace k := k.2 rfl
      split at k
      · rename_i hc
        exact turn ⟨o, T, h, .tuple #[], false⟩ h rfl rfl rfl (.inl ⟨rfl, hw, rfl, rfl⟩) hc (fun p hp2 hle => hpend p hp2 (by omega)) k
      · rename_i hc
        exact still ⟨o, T, h, .tuple #[], false⟩ pend rfl rfl rfl (.inl ⟨rfl, hw, rfl, rfl⟩) hc hpend (fun _ hp => hp) (fun _ hon => (by cases hon)) k
    | true =>
      replace k := k.1 rfl
      split at k
      · rename_i kf args hc
        obtain ⟨v, h1, hd, hpo, hk⟩ := k
        have hcls : ocls o.op = 2 := by
          apply Classical.byContradiction; intro hn
          rw [acall_cls hn] at hc; cases hc
        exact turn ⟨o, T, h, v, true⟩ h1 rfl rfl rfl (.inr ⟨rfl, hw, .inl ⟨kf, args, hc, hd⟩⟩) hcls (pendOk_mem hpo) hk
      · rename_i hc
        obtain ⟨v, h1, hop, hk⟩ := holds_iff.1 k
        split at hk
        · rename_i h2
          exact turn ⟨o, T, h, v, true⟩ h1 rfl rfl rfl (.inr ⟨rfl, hw, .inr ⟨hc, hop⟩⟩) h2 (pendOk_mem hk.1) hk.2
        · rename_i h2
          split at hk
          · rename_i h1c
            have := cls1 h1c hop
            subst this
            refine still ⟨o, T, h1, v, true⟩ _ rfl rfl rfl (.inr ⟨rfl, hw, .inr ⟨hc, hop⟩⟩) h2 ?_ ?_ (fun _ _ => ⟨hk.1, hop, fun hlt => ?_⟩) hk.2
            · intro p hp2 hle
              split at hp2
              · simp only [List.mem_cons] at hp2
                rcases hp2 with rfl | hp2
                · exact hop
                · exact hpend p hp2 hle
              · exact hpend p hp2 hle
            · intro p hp2; split <;> simp [hp2]
            · rw [if_pos hlt]; simp
          · rename_i h1c
            have h0 : ocls o.op = 0 := by
              have : ocls o.op ≤ 2 := by unfold ocls; split <;> omega
              omega
            have := (cls0 h0 hop).1
            subst this
            exact still ⟨o, T, h1, v, true⟩ pend rfl rfl rfl (.inr ⟨rfl, hw, .inr ⟨hc, hop⟩⟩) h2 hpend (fun _ hp => hp) (fun e => absurd e h1c) hk

def zipW : List Oper → List (Nat × Nat) → List (Oper × Nat × Nat)
  | o :: r, w :: ws => (o, w) :: zipW r ws
  | o :: r, [] => (o, 0, 0) :: zipW r []
  | [], _ => []
theorem zipW_map : ∀ (l : List Oper) (ws : List (Nat × Nat)), (zipW l ws).map (·.1) = l
  | [], _ => by simp [zipW]
  | o :: r, [] => by simp [zipW, zipW_map r []]
  | o :: r, w :: ws => by simp [zipW, zipW_map r ws]
theorem readsOk_of {e : Ent} {tr : List Ent} {hf : Heap} {lo : Nat} : ∀ (n : Nat), (∀ c, lo ≤ c → c < lo + n → aop G P (aeval G e.T) e.o.op (hat tr hf c) = some (e.v, hat tr hf c)) → readsOk G P e tr hf lo n
  | 0, _ => trivial
  | n + 1, k => ⟨k _ (by omega) (by omega), readsOk_of n fun c h1 h2 => k c h1 (by omega)⟩
theorem checks_of {ws0 : List (Nat × Nat)} {all : List Ent} {hf : Heap} : ∀ (tr : List Ent) (l : List Oper) (ws : List (Nat × Nat)), ReadsAll G P [] all hf 0 tr (zipW l ws) → ws.length = l.length → checks G P ws0 all hf tr ws
  | [], _, _, _, _ => by unfold checks; trivial
  | _ :: _, _, [], _, _ => by unfold checks; trivial
  | e :: r, [], _ :: _, _, h => by simp at h
  | e :: r, o :: l, (lo, hi) :: ws, k, h => by
    refine ⟨?_, checks_of r l ws k.2 (by simpa using h)⟩
    split
    · rename_i hc
      refine readsOk_of _ fun c h1 h2 => ?_
      have := k.1 hc.1 hc.2 c h1 (by omega)
      simpa [heapAt] using this
    · trivial
variable {Q : Exit → List Value → Heap → Prop} {T : List Value} {h : Heap}
theorem Aw.open {id : Nat} {ops : Array Oper} {ws : List (Nat × Nat)} (hm : P.follows .mixedOrders = true) (hok : drawOk ops = true) (hws : windows ops = ws)
    (k : DR G P ops (fun T h => Q .normal T h) (zipW ops.toList ws) 0 [] [] T h) : Aw G P (.region id ops true) Q T h := by
  obtain ⟨tr, Tf, hf, g1, g2, g3, g4, -⟩ := DR.trace _ _ _ _ _ _ k rfl (fun p hp => by simp at hp)
  rw [zipW_map] at g2
  have hlen : tr.length = ops.size := by have := congrArg List.length g2; simpa using this
  refine Aw.traced hm hok tr Tf hf ⟨?_, g1⟩ g2 g3
  rw [hws]
  exact checks_of tr ops.toList ws g4 (by rw [← hws]; simp [windows])

/-! ### whole code -/
def Run (G : Nat) (P : Program) (W : Nat → List (Nat × Nat)) : Code → (Exit → List Value → Heap → Prop) → List Value → Heap → Prop
  | .skip, Q, T, h => Q .normal T h
  | .label _, Q, T, h => Q .normal T h
  | .ret, Q, T, h => Q .ret T h
  | .exit id, Q, T, h => Q (.exit id) T h
  | .region id ops draw, Q, T, h =>
    if draw then DR G P ops (fun T h => Q .normal T h) (zipW ops.toList (W id)) 0 [] [] T h
    else AOps G P ops (fun T h => Q .normal T h) ops.toList T h
  | .seq a b, Q, T, h => Run G P W a (ASeq (fun T h => Run G P W b Q T h) Q) T h
  | .cond c x y, Q, T, h => match aeval G T c with
    | .bool t => (t = true → Run G P W x Q T h) ∧ (t = false → Run G P W y Q T h)
    | _ => False
  | .block id c, Q, T, h => Run G P W c (ABlock id Q) T h
  | c, Q, T, h => Aw G P c Q T h
/-- The regions' windows are as told. -/
def winOk (W : Nat → List (Nat × Nat)) : Code → Bool
  | .region id ops draw => !draw || (drawOk ops && (windows ops == W id))
  | .seq a b => winOk W a && winOk W b
  | .cond _ x y => winOk W x && winOk W y
  | .block _ c => winOk W c
  | _ => true
theorem Run.aw {W : Nat → List (Nat × Nat)} (hm : P.follows .mixedOrders = true) : ∀ (c : Code) (Q : Exit → List Value → Heap → Prop) (T : List Value) (h : Heap), winOk W c = true → Run G P W c Q T h → Aw G P c Q T h := by
  intro c
  induction c with
  | skip => intro Q T h _ k; exact Aw.skip k
  | label l => intro Q T h _ k; exact Aw.label k
  | ret => intro Q T h _ k; exact Aw.ret k
  | exit id => intro Q T h _ k; exact Aw.exit k
  | region id ops draw =>
    intro Q T h hw k
    simp only [Run] at k
    cases draw with
    | false => exact Aw.region (by simpa using k)
    | true =>
      simp only [winOk, Bool.not_true, Bool.false_or, Bool.and_eq_true, beq_iff_eq] at hw
      exact Aw.open hm hw.1 hw.2 (by simpa using k)
  | seq a b iha ihb =>
    intro Q T h hw k
    simp only [winOk, Bool.and_eq_true] at hw
    simp only [Run] at k
    refine Aw.seq (Aw.mono (iha _ _ _ hw.1 k) ?_)
    intro e T h q
    cases e with
    | normal => exact ihb _ _ _ hw.2 q
    | _ => exact q
  | cond c x y ihx ihy =>
    intro Q T h hw k
    simp only [winOk, Bool.and_eq_true] at hw
    simp only [Run] at k
    split at k
    case h_2 => exact k.elim
    rename_i t ht
    exact Aw.cond_split ht (fun e => ihx _ _ _ hw.1 (k.1 e)) (fun e => ihy _ _ _ hw.2 (k.2 e))
  | block id c ih =>
    intro Q T h hw k
    exact Aw.block (ih _ _ _ hw (by simpa only [Run] using k))
  | _ => intro Q T h _ k; exact k
theorem Does.run {f : FuncId} {fn : Func} {c : Code} {args : List Value} {R : Value → Heap → Prop} (W : Nat → List (Nat × Nat)) (hm : P.follows .mixedOrders = true) (he : enters P f = true) (hf : P.funcs[f]? = some fn) (hb : fn.body = some c) (hw : winOk W c = true)
    (k : Run G P W c (AEnd P fn.results.toList R) (args ++ List.replicate (fn.ntmps - args.length) (.tuple #[])) h) : Does G P f args h R :=
  Does.body he hf hb (Run.aw hm _ _ _ _ hw k)

end
end Go.Proofs.Ytnhnelhcipafeaa.Ab
