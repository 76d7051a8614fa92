/- Regions whose order is open: any order does what the text's order does, where what is written is ordered. -/
import Derived.Test.YtnhnelhcipafeaaAb12
set_option linter.unusedSimpArgs false
set_option linter.unusedVariables false
namespace Go.Proofs.Ytnhnelhcipafeaa.Ab
open Go Go.RowKit

section
variable {G : Nat} {P : Program}

/-! ### what is before what -/
def binding (o : Oper) : List Nat := o.after.toList.filterMap fun e => if Region.binds .any e then some e.on else none
def mask1 (acc : List Nat) (o : Oper) : Nat := (binding o).foldl (fun s j => s ||| 2 ^ j ||| acc.getD j 0) 0
def masks : List Nat → List Oper → List Nat
  | acc, [] => acc
  | acc, o :: r => masks (acc ++ [mask1 acc o]) r
/-- j is before i. -/
def bef (ms : List Nat) (i j : Nat) : Bool := (ms.getD i 0).testBit j
theorem fold_bit (acc : List Nat) (j : Nat) : ∀ (l : List Nat) (s : Nat), (l.foldl (fun s j => s ||| 2 ^ j ||| acc.getD j 0) s).testBit j = true → s.testBit j = true ∨ ∃ k ∈ l, k = j ∨ (acc.getD k 0).testBit j = true
  | [], s, h => .inl h
  | x :: l, s, h => by
    rcases fold_bit acc j l _ h with h1 | ⟨k, hk, h1⟩
    · simp only [Nat.testBit_or, Bool.or_eq_true] at h1
      rcases h1 with (h1 | h1) | h1
      · exact .inl h1
      · rw [Nat.testBit_two_pow] at h1
        exact .inr ⟨x, by simp, .inl (by simpa using h1)⟩
      · exact .inr ⟨x, by simp, .inr h1⟩
    · exact .inr ⟨k, by simp [hk], h1⟩
theorem masks_pre : ∀ (l : List Oper) (acc : List Nat), acc.length ≤ (masks acc l).length ∧ (masks acc l).take acc.length = acc
  | [], acc => ⟨Nat.le_refl _, by simp [masks]⟩
  | o :: r, acc => by
    obtain ⟨h1, h2⟩ := masks_pre r (acc ++ [mask1 acc o])
    simp only [List.length_append, List.length_cons, List.length_nil] at h1 h2
    refine ⟨by simp only [masks]; omega, ?_⟩
    have := congrArg (List.take acc.length) h2
    rw [List.take_take, Nat.min_eq_left (by omega)] at this
    simp only [masks]
    rw [this, List.take_left']
    rfl
theorem masks_get : ∀ (l : List Oper) (acc : List Nat) (i : Nat) (o : Oper), l[i]? = some o → (masks acc l)[acc.length + i]? = some (mask1 ((masks acc l).take (acc.length + i)) o)
  | [], _, i, o, h => by simp at h
  | x :: r, acc, 0, o, h => by
    simp at h; subst h
    obtain ⟨h1, h2⟩ := masks_pre r (acc ++ [mask1 acc x])
    obtain ⟨g1, g2⟩ := masks_pre (x :: r) acc
    rw [Nat.add_zero, g2]
    simp only [masks]
    have : ((masks (acc ++ [mask1 acc x]) r).take (acc.length + 1))[acc.length]? = some (mask1 acc x) := by
      have h2' : (masks (acc ++ [mask1 acc x]) r).take (acc.length + 1) = acc ++ [mask1 acc x] := by simpa using h2
      rw [h2']; simp
    rw [List.getElem?_take_of_lt (by omega)] at this
    exact this
  | x :: r, acc, i + 1, o, h => by
    have := masks_get r (acc ++ [mask1 acc x]) i o (by simpa using h)
    simp only [List.length_append, List.length_cons, List.length_nil] at this
    simp only [masks]
    rw [show acc.length + (i + 1) = acc.length + (0 + 1) + i from by omega]
    exact this
theorem bef_in {l : List Oper} (S : Nat → Prop) (hS : ∀ i o, l[i]? = some o → S i → ∀ j ∈ binding o, S j) :
    ∀ i o, l[i]? = some o → (∀ j ∈ binding o, S j) → ∀ j, bef (masks [] l) i j = true → S j := by
  intro i
  induction i using Nat.strongRecOn with
  | _ i ih =>
    intro o ho hb j hj
    have hm := masks_get l [] i o ho
    simp only [List.length_nil, Nat.zero_add] at hm
    unfold bef at hj
    rw [List.getD_eq_getElem?_getD, hm, Option.getD_some] at hj
    rcases fold_bit _ j _ _ hj with h | ⟨k, hk, h⟩
    · simp at h
    · rcases h with rfl | h
      · exact hb k hk
      · have hki : k < i := by
          apply Classical.byContradiction; intro hn
          rw [List.getD_eq_getElem?_getD, List.getElem?_eq_none (by simp; omega)] at h
          simp at h
        rw [List.getD_eq_getElem?_getD, List.getElem?_take_of_lt hki, ← List.getD_eq_getElem?_getD] at h
        have hil : i < l.length := by
          apply Classical.byContradiction; intro hn
          rw [List.getElem?_eq_none (by omega)] at ho; cases ho
        have hko : l[k]? = some l[k] := List.getElem?_eq_getElem (by omega)
        exact ih k hki l[k] hko (hS k l[k] hko (hb k hk)) j h

/-! ### kinds of operations: 0 asks nothing of memory, 1 reads it, 2 all else -/
def ocls : Op → Nat
  | .move _ | .assign _ | .pick .. | .build .. | .nilCheck _ | .binOp .. | .unOp .. | .convert .. | .makeInterface .. | .makeFunc .. | .fieldAddr .. | .field .. | .indexAddr .. | .index .. | .extract .. => 0
  | .call { callee := .builtin .min, .. } | .call { callee := .builtin .max, .. } => 0
  | .load .. | .lookup .. | .slice .. => 1
  | .call { callee := .builtin .len, .. } => 1
  | _ => 2
theorem min_eq (ts : Array TypeId) (A : List Value) (h : Heap) : abuiltin P .min ts A h = (aminmax P false A).map (·, h) := by
  rcases A with _ | ⟨_, _ | ⟨_, _ | _⟩⟩ <;> rfl
theorem max_eq (ts : Array TypeId) (A : List Value) (h : Heap) : abuiltin P .max ts A h = (aminmax P true A).map (·, h) := by
  rcases A with _ | ⟨_, _ | ⟨_, _ | _⟩⟩ <;> rfl
theorem cls0 {ev : Operand → Value} {o : Op} {h h' : Heap} {v : Value} (hc : ocls o = 0) (hv : aop G P ev o h = some (v, h')) : h' = h ∧ ∀ h2, aop G P ev o h2 = some (v, h2) := by
  have one : ∀ {α : Type} {x : Option α} {f : α → Value}, x.map (fun a => (f a, h)) = some (v, h') → h' = h ∧ ∀ h2 : Heap, x.map (fun a => (f a, h2)) = some (v, h2) := by
    intro α x f e
    cases x with
    | none => cases e
    | some a => cases e; exact ⟨rfl, fun _ => rfl⟩
  unfold ocls at hc
  split at hc <;> first | cases hc | skip
  · cases hv; exact ⟨rfl, fun _ => rfl⟩
  · cases hv; exact ⟨rfl, fun _ => rfl⟩
  · rename_i c a b
    simp only [aop] at hv ⊢
    split at hv
    · cases hv; exact ⟨rfl, fun _ => by simp only [*]⟩
    · cases hv
  · simp only [aop] at hv ⊢
    split at hv
    · exact one (f := id) hv
    · cases hv
  · simp only [aop] at hv ⊢
    split at hv <;> first | (cases hv; exact ⟨rfl, fun _ => by simp only [*]⟩) | cases hv
  · exact one (f := id) hv
  · exact one (f := id) hv
  · exact one (f := id) hv
  · exact one (f := id) hv
  · cases hv; exact ⟨rfl, fun _ => rfl⟩
  · simp only [aop] at hv ⊢
    split at hv
    · exact one (f := id) hv
    · cases hv
  · simp only [aop] at hv ⊢
    split at hv
    · exact one (f := id) hv
    · cases hv
  · simp only [aop] at hv ⊢
    split at hv
    · exact one (f := id) hv
    · cases hv
  · exact one (f := id) hv
  · exact one (f := id) hv
  · simp only [aop, min_eq] at hv ⊢
    exact one (f := id) hv
  · simp only [aop, max_eq] at hv ⊢
    exact one (f := id) hv
theorem cls1 {ev : Operand → Value} {o : Op} {h h' : Heap} {v : Value} (hc : ocls o = 1) (hv : aop G P ev o h = some (v, h')) : h' = h := by
  have one : ∀ {α : Type} {x : Option α} {f : α → Value}, x.map (fun a => (f a, h)) = some (v, h') → h' = h := by
    intro α x f e
    cases x with
    | none => cases e
    | some a => cases e; rfl
  unfold ocls at hc
  split at hc <;> first | cases hc | skip
  · simp only [aop] at hv
    split at hv
    · exact one (f := id) hv
    · cases hv
  · simp only [aop] at hv
    split at hv
    · split at hv
      · exact one (f := id) hv
      · cases hv
    · cases hv
  · exact one (f := id) hv
  · simp only [aop] at hv
    generalize (List.map ev _ : List Value) = A at hv
    rcases A with _ | ⟨x, _ | ⟨y, r⟩⟩
    · simp [abuiltin] at hv
    · simp only [abuiltin] at hv
      split at hv
      · split at hv
        · cases hv; rfl
        · exact one (f := id) hv
      · cases hv
    · simp [abuiltin] at hv
theorem acall_cls {ev : Operand → Value} {o : Op} (h : ocls o ≠ 2) : acall ev o = none := by
  unfold acall
  split
  · exact absurd rfl h
  · rfl

/-! ### only the operands count -/
def opn : Op → List Nat := fun o => o.operands.toList.filterMap fun | .tmp t => some t | _ => none
theorem aop_congr {ev ev' : Operand → Value} {o : Op} {h : Heap} (k : ∀ x ∈ o.operands, ev x = ev' x) : aop G P ev o h = aop G P ev' o h := by
  have mapc : ∀ (l : List Operand), (∀ x ∈ l, ev x = ev' x) → l.map ev = l.map ev' := fun l h => List.map_congr_left h
  cases o
  case build t parts =>
    have e : (parts.toList.map fun p => (p.1, ev p.2)) = (parts.toList.map fun p => (p.1, ev' p.2)) := List.map_congr_left fun p hp => by
      rw [k p.2]; simp [Op.operands]; exact ⟨p.1, by simpa using hp⟩
    simp only [aop, e]
  case buildSlice t len parts =>
    have e : (parts.toList.map fun p => (p.1, ev p.2)) = (parts.toList.map fun p => (p.1, ev' p.2)) := List.map_congr_left fun p hp => by
      rw [k p.2]; simp [Op.operands]; exact ⟨p.1, by simpa using hp⟩
    simp only [aop, e]
  case makeFunc fn first captured =>
    have e1 : first.map ev = first.map ev' := Array.map_congr_left fun x hx => k x (by simp [Op.operands, hx])
    have e2 : captured.map ev = captured.map ev' := Array.map_congr_left fun x hx => k x (by simp [Op.operands, hx])
    simp only [aop, e1, e2]
  case call c =>
    obtain ⟨callee, args, ats⟩ := c
    cases callee with
    | builtin b =>
      have e : args.toList.map ev = args.toList.map ev' := mapc _ fun x hx => k x (by simp [Op.operands, Call.operands]; simpa using hx)
      simp only [aop, e]
    | _ => rfl
  case slice t x lo hi mx =>
    have e0 := k x (by simp [Op.operands])
    have e1 : lo.map ev = lo.map ev' := by cases lo with | none => rfl | some y => simp [k y (by simp [Op.operands])]
    have e2 : hi.map ev = hi.map ev' := by cases hi with | none => rfl | some y => simp [k y (by simp [Op.operands])]
    have e3 : mx.map ev = mx.map ev' := by cases mx with | none => rfl | some y => simp [k y (by simp [Op.operands])]
    simp only [aop, e0, e1, e2, e3]
  case makeMap t r => cases r <;> rfl
  case next it isS => simp [Op.operands] at k; simp [aop, k]
  all_goals first | rfl | (simp [Op.operands] at k; simp [aop, k])
theorem acall_congr {ev ev' : Operand → Value} {o : Op} (k : ∀ x ∈ o.operands, ev x = ev' x) : acall ev o = acall ev' o := by
  cases o
  case call c =>
    obtain ⟨callee, args, ats⟩ := c
    cases callee with
    | value f =>
      have e0 := k f (by simp [Op.operands, Call.operands])
      have e : args.toList.map ev = args.toList.map ev' := List.map_congr_left fun x hx => k x (by simp [Op.operands, Call.operands]; right; simpa using hx)
      simp only [acall, e0, e]
    | _ => rfl
  all_goals rfl

end
end Go.Proofs.Ytnhnelhcipafeaa.Ab
