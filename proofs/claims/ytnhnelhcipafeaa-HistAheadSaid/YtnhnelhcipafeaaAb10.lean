/- One operation; regions; code; functions. -/
import Derived.Test.YtnhnelhcipafeaaAb9
set_option linter.unusedSimpArgs false
set_option linter.unusedVariables false
namespace Go.Proofs.Ytnhnelhcipafeaa.Ab
open Go Go.RowKit

section
variable {G : Nat} {P : Program} {φ : Emb} {h : Heap} {w : World}

def abuiltin (P : Program) (b : Builtin) (ts : Array TypeId) (args : List Value) (h : Heap) : Option (Value × Heap) :=
  match b, args with
  | .len, [x] => match ts[0]? with
    | some t => match alen P t x with
      | some v => some (v, h)
      | none => (alenMap P t x h).map (·, h)
    | none => none
  | .append, [s, x] => match ts[0]?, ts[1]? with
    | some t, some t2 => match tslice P t with
      | some k => if notInt P t2 then aappend k s x h else none
      | none => none
    | _, _ => none
  | .copy, [d, x] => match ts[0]? with
    | some t => match tslice P t with
      | some k => acopy k d x h
      | none => none
    | none => none
  | .delete, [m, k] => match ts[0]? with
    | some t => match tmap P t with
      | some q => (adelete q.1 m k h).map (.tuple #[], ·)
      | none => none
    | none => none
  | .min, args => (aminmax P false args).map (·, h)
  | .max, args => (aminmax P true args).map (·, h)
  | _, _ => none

def aop (G : Nat) (P : Program) (ev : Operand → Value) (o : Op) (h : Heap) : Option (Value × Heap) :=
  match o with
  | .move x | .assign x => some (ev x, h)
  | .pick c a b => match ev c with
    | .bool t => some (if t then ev a else ev b, h)
    | _ => none
  | .alloc e => match tz P e with
    | some z => some (anew (aes P e) z h)
    | none => none
  | .box e x => abox (aes P e) (ev x) h
  | .build t parts => match tparts P t with
    | some k => (abuild k (parts.toList.map fun p => (p.1, ev p.2))).map (·, h)
    | none => none
  | .buildSlice t len parts => match tslice P t with
    | some k => abuildSlice k.1 len k.2.2 (parts.toList.map fun p => (p.1, ev p.2)) h
    | none => none
  | .load t a => match tin P t with
    | some k => (aload k.1 k.2 (ev a) h).map (·, h)
    | none => none
  | .store t a x => match tin P t with
    | some k => (astore k.2 (ev a) (ev x) h).map (.tuple #[], ·)
    | none => none
  | .nilCheck x => match ev x with
    | .pointer (some ⟨i, o, none⟩) => some (.pointer (some ⟨i, o, none⟩), h)
    | .func (.func f) a b => some (.func (.func f) a b, h)
    | .iface t v => some (.iface t v, h)
    | _ => none
  | .binOp op t x y _ => (abin P op t x y (ev x) (ev y)).map (·, h)
  | .unOp op _ x => (aun P op (ev x)).map (·, h)
  | .convert src dst x => (aconv P src dst (ev x)).map (·, h)
  | .makeInterface t x => (amakeIface P t (ev x)).map (·, h)
  | .makeFunc fn first captured => some (.func fn (first.map ev) (captured.map ev), h)
  | .makeMap t none => some (.map (some h.length), h ++ [.map [] 0])
  | .makeSlice t l c => match tslice P t with
    | some k => amake k (ev l) (ev c) h
    | none => none
  | .slice t x lo hi mx => (aslice P t (ev x) (lo.map ev) (hi.map ev) (mx.map ev) h).map (·, h)
  | .fieldAddr s x f => match tfield P s f with
    | some k => (afieldAddr k (ev x)).map (·, h)
    | none => none
  | .field s x f => match tfield P s f with
    | some k => (afield k (ev x)).map (·, h)
    | none => none
  | .indexAddr t x i => match tix P t with
    | some k => (aindexAddr k (ev x) (ev i)).map (·, h)
    | none => none
  | .index t x i => (aindex P t (ev x) (ev i)).map (·, h)
  | .lookup t x i ok => match tmap P t with
    | some k => match tzv P k.2.2 with
      | some z => (alookup k z (ev x) (ev i) ok h).map (·, h)
      | none => none
    | none => none
  | .mapUpdate t m k x | .insert t m k x => match tmap P t with
    | some q => (amapSet q.1 (ev m) (ev k) (ev x) h).map (.tuple #[], ·)
    | none => none
  | .extract x i => (aextract i (ev x)).map (·, h)
  | .range t x => arange P t (ev x) h
  | .next it isS => if isS then none else anext (ev it) h
  | .entry it => (aentry (ev it) h).map (·, h)
  | .call { callee := .builtin b, args, argTypes } => abuiltin P b argTypes (args.toList.map ev) h
  | _ => none

def OpDoes (G : Nat) (P : Program) (s : Sem Next) (φ : Emb) (h : Heap) (w : World) (v : Value) (h' : Heap) : Prop :=
  ∃ n v' w' φ', s.run P w = .ok n w' ∧ (n = .value v' ∨ n = .skip ∧ v' = .tuple #[]) ∧ VR φ' v v' ∧ Post G φ h w φ' h' w'
theorem OpOk.value {s : Sem Value} {v : Value} {h' : Heap} (k : OpOk G P s φ h w v h') : OpDoes G P (do pure (.value (← s))) φ h w v h' := by
  obtain ⟨v', w', φ', a, b, c⟩ := k
  exact ⟨.value v', v', w', φ', by simp [Sem.run_bind, a], .inl rfl, b, c⟩
theorem OpDoes.now (s : Sim G φ h w) {v v' : Value} (hv : VR φ v v') : OpDoes G P (pure (.value v')) φ h w v h :=
  ⟨.value v', v', w, φ, rfl, .inl rfl, hv, Post.refl s⟩
theorem OpDoes.unit {s : Sem Unit} {w' : World} {h' : Heap} (hr : s.run P w = .ok () w') (p : Post G φ h w φ h' w') : OpDoes G P (do s; pure .skip) φ h w (.tuple #[]) h' :=
  ⟨.skip, .tuple #[], w', φ, by simp [Sem.run_bind, hr], .inr ⟨rfl, rfl⟩, .tuple _ _ .nil, p⟩

theorem PRs.map_eval {α : Type} {f g : α → Value} (hfg : ∀ x, VR φ (f x) (g x)) : ∀ (l : List (Nat × α)), PRs φ (l.map fun p => (p.1, f p.2)) (l.map fun p => (p.1, g p.2))
  | [] => .nil
  | x :: r => .cons _ _ _ _ _ (hfg x.2) (PRs.map_eval hfg r)
theorem OVR.map_eval {f g : Operand → Value} (hfg : ∀ x, VR φ (f x) (g x)) (o : Option Operand) : OVR φ (o.map f) (o.map g) := by
  cases o with
  | none => exact .none
  | some x => exact .some _ _ (hfg x)

theorem aop_ok {ev ev' : Operand → Value} {o : Oper} (s : Sim G φ h w) (hev : ∀ x, VR φ (ev x) (ev' x)) {v : Value} {h' : Heap} (hv : aop G P ev o.op h = some (v, h')) :
    OpDoes G P (execOp ev' o) φ h w v h' := by
  obtain ⟨dst, op, ty, pos, after, guard⟩ := o
  simp only at hv
  have one : ∀ {α : Type} {x : Option α} {f : α → Value × Heap}, x.map f = some (v, h') → ∃ a, x = some a ∧ f a = (v, h') := fun e => by simpa [Option.map_eq_some_iff] using e
  unfold aop at hv
  split at hv
  · cases hv; exact OpDoes.now s (hev _)
  · cases hv; exact OpDoes.now s (hev _)
  · rename_i c a b
    split at hv
    case h_2 => cases hv
    rename_i t hc
    cases hv
    have hcv := hev c
    rw [hc] at hcv
    have := hcv.flat_inv rfl
    refine ⟨.value (if t then ev' a else ev' b), _, w, φ, ?_, .inl rfl, ?_, Post.refl s⟩
    · simp [execOp, this, asBool, Sem.run_bind]
    · cases t <;> exact hev _
  · split at hv
    case h_2 => cases hv
    rename_i e z hz
    cases hv
    exact (aalloc_ok hz s _).value
  · exact (abox_ok s hv (hev _)).value
  · rename_i t parts
    split at hv
    case h_2 => cases hv
    rename_i k hk
    obtain ⟨a, h1, h2⟩ := one hv
    cases h2
    have := abuild_ok (P := P) hk s h1 (PRs.map_eval hev parts.toList)
    have e : (parts.toList.map fun p => (p.1, ev' p.2)).toArray = parts.map fun p => (p.1, ev' p.2) := by rw [← Array.toList_map]
    rw [e] at this
    exact this.value
  · rename_i t len parts
    split at hv
    case h_2 => cases hv
    rename_i k hk
    have := abuildSlice_ok (P := P) hk s hv (PRs.map_eval hev parts.toList)
    have e : (parts.toList.map fun p => (p.1, ev' p.2)).toArray = parts.map fun p => (p.1, ev' p.2) := by rw [← Array.toList_map]
    rw [e] at this
    exact this.value
  · split at hv
    case h_2 => cases hv
    rename_i t a k hk
    obtain ⟨x, h1, h2⟩ := one hv
    cases h2
    obtain ⟨v', r, q⟩ := aload_ok (P := P) hk s h1 (hev _)
    exact (OpOk.still s r q).value
  · split at hv
    case h_2 => cases hv
    rename_i t a x k hk
    obtain ⟨y, h1, h2⟩ := one hv
    cases h2
    obtain ⟨w', r, q⟩ := astore_ok (P := P) (g := k.1) hk s h1 (hev _) (hev _)
    exact OpDoes.unit r q
  · rename_i x
    have hx := hev x
    split at hv
    · rename_i i o hxe
      cases hv
      rw [hxe] at hx
      obtain ⟨l, hl, hx'⟩ := hx.ptr_inv
      refine ⟨.value (ev' x), ev' x, w, φ, ?_, .inl rfl, by rw [hx']; exact .ptr _ _ _ hl, Post.refl s⟩
      simp only [execOp, hx']; rfl
    · rename_i f a b hxe
      cases hv
      rw [hxe] at hx
      obtain ⟨f', c', hx', q⟩ := hx.func_inv
      refine ⟨.value (ev' x), ev' x, w, φ, ?_, .inl rfl, by rw [← hxe]; exact hev x, Post.refl s⟩
      simp only [execOp, hx']; rfl
    · rename_i t v1 hxe
      cases hv
      rw [hxe] at hx
      obtain ⟨x', hx', q⟩ := hx.iface_inv
      refine ⟨.value (ev' x), ev' x, w, φ, ?_, .inl rfl, by rw [← hxe]; exact hev x, Post.refl s⟩
      simp only [execOp, hx']; rfl
    · cases hv
  · obtain ⟨y, h1, h2⟩ := one hv
    cases h2
    exact (abin_ok s h1 (hev _) (hev _)).value
  · obtain ⟨y, h1, h2⟩ := one hv
    cases h2
    exact (aun_ok s h1 (hev _)).value
  · obtain ⟨y, h1, h2⟩ := one hv
    cases h2
    exact (aconv_ok s h1 (hev _)).value
  · obtain ⟨y, h1, h2⟩ := one hv
    cases h2
    exact (amakeIface_ok s h1 (hev _)).value
  · rename_i fn first captured
    cases hv
    refine ⟨.value (.func fn (first.map ev') (captured.map ev')), _, w, φ, rfl, .inl rfl, ?_, Post.refl s⟩
    refine .func _ _ _ _ _ ?_ ?_
    · rw [Array.toList_map, Array.toList_map]; exact VRs.map_eval hev _
    · rw [Array.toList_map, Array.toList_map]; exact VRs.map_eval hev _
  · rename_i t
    cases hv
    exact (amakeMap_ok (P := P) s t).value
  · split at hv
    case h_2 => cases hv
    rename_i t l c k hk
    exact (amake_ok hk s hv (hev _) (hev _)).value
  · rename_i t x lo hi mx
    obtain ⟨y, h1, h2⟩ := one hv
    cases h2
    have key := aslice_ok s h1 (hev x) (OVR.map_eval hev lo) (OVR.map_eval hev hi) (OVR.map_eval hev mx)
    have harr : ∀ n e, P.underlying t ≠ some (.array n e) := by
      intro n e hu
      unfold aslice at h1
      split at h1
      · split at h1
        · rename_i q; have := isString_run q.1; rw [hu] at this; cases this
        · cases h1
      · split at h1
        · rename_i q; obtain ⟨e2, q1, _⟩ := tix_slice q; rw [hu] at q1; cases q1
        · cases h1
      · split at h1
        · rename_i q; obtain ⟨e2, q1, _⟩ := tix_slice q; rw [hu] at q1; cases q1
        · cases h1
      · cases h1
    have he : (Instr.sliceAt t (ev' x) (lo.map ev') (hi.map ev') (mx.map ev')).run P w = (Instr.slice t (ev' x) (lo.map ev') (hi.map ev') (mx.map ev')).run P w := by
      obtain ⟨v', w', φ', r, _, _⟩ := key
      cases hu : P.underlying t with
      | none =>
        exfalso
        simp [Instr.slice, Sem.run_bind, underlying, hu, stuck, Sem.run] at r
      | some d =>
        simp only [Instr.sliceAt, Sem.run_bind, run_underlying hu, Result.andThen_ok]
        cases d <;> first | rfl | exact absurd hu (harr _ _)
    obtain ⟨v', w', φ', r, q1, q2⟩ := key
    exact OpOk.value ⟨v', w', φ', he.trans r, q1, q2⟩
  · split at hv
    case h_2 => cases hv
    rename_i k hk
    obtain ⟨y, h1, h2⟩ := one hv
    cases h2
    exact (afieldAddr_ok hk s h1 (hev _)).value
  · split at hv
    case h_2 => cases hv
    rename_i k hk
    obtain ⟨y, h1, h2⟩ := one hv
    cases h2
    exact (afield_ok hk s h1 (hev _)).value
  · split at hv
    case h_2 => cases hv
    rename_i k hk
    obtain ⟨y, h1, h2⟩ := one hv
    cases h2
    exact (aindexAddr_ok hk s h1 (hev _) (hev _)).value
  · obtain ⟨y, h1, h2⟩ := one hv
    cases h2
    exact (aindex_ok s h1 (hev _) (hev _)).value
  · split at hv
    case h_2 => cases hv
    rename_i k hk
    split at hv
    case h_2 => cases hv
    rename_i z hz
    obtain ⟨y, h1, h2⟩ := one hv
    cases h2
    exact (alookup_ok hk hz s h1 (hev _) (hev _)).value
  · split at hv
    case h_2 => cases hv
    rename_i q hq
    obtain ⟨y, h1, h2⟩ := one hv
    cases h2
    obtain ⟨kd, kt, et⟩ := q
    obtain ⟨w', r, p⟩ := amapSet_ok (P := P) hq s h1 (hev _) (hev _) (hev _)
    exact OpDoes.unit r p
  · split at hv
    case h_2 => cases hv
    rename_i q hq
    obtain ⟨y, h1, h2⟩ := one hv
    cases h2
    obtain ⟨kd, kt, et⟩ := q
    obtain ⟨w', r, p⟩ := amapSet_ok (P := P) hq s h1 (hev _) (hev _) (hev _)
    exact OpDoes.unit r p
  · obtain ⟨y, h1, h2⟩ := one hv
    cases h2
    exact (aextract_ok s h1 (hev _)).value
  · exact (arange_ok s hv (hev _)).value
  · rename_i it isS
    split at hv
    · cases hv
    · rename_i hs
      have : isS = false := by simpa using hs
      subst this
      exact (anext_ok s hv (hev _) ty).value
  · obtain ⟨y, h1, h2⟩ := one hv
    cases h2
    exact (aentry_ok s h1 (hev _)).value
  · rename_i b args argTypes
    have hargs : VRs φ (args.toList.map ev) (args.map ev').toList := by rw [Array.toList_map]; exact VRs.map_eval hev _
    have hres : ∀ (s : Sem Value), (execOp ev' { dst := dst, op := .call { callee := .builtin b, args := args, argTypes := argTypes }, type := ty, pos := pos, after := after, guard := guard }).run P w = (builtin b argTypes ty (args.map fun | .const _ => true | _ => false) (args.map ev')).run P w := by
      intro _
      simp only [execOp, resolve, Sem.run_bind, Sem.run_pure, Result.andThen_ok, invoke]
      rfl
    have fin : ∀ {sv : Sem Value}, (builtin b argTypes ty (args.map fun | .const _ => true | _ => false) (args.map ev')) = (do pure (.value (← sv))) → OpOk G P sv φ h w v h' → OpDoes G P (execOp ev' { dst := dst, op := .call { callee := .builtin b, args := args, argTypes := argTypes }, type := ty, pos := pos, after := after, guard := guard }) φ h w v h' := by
      intro sv he k
      obtain ⟨n, v', w', φ', r, q⟩ := k.value
      rw [← he, ← hres sv] at r
      exact ⟨n, v', w', φ', r, q⟩
    generalize hA : args.toList.map ev = A at hv hargs
    generalize hA' : args.map ev' = A' at fin hargs hres
    have get : ∀ (i : Nat) (x : Value), A[i]? = some x → ∃ x', A'[i]? = some x' ∧ VR φ x x' := by
      intro i x hi
      obtain ⟨x', a, b⟩ := hargs.get hi
      rw [Array.getElem?_toList] at a
      exact ⟨x', a, b⟩
    unfold abuiltin at hv
    split at hv
    · rename_i x
      obtain ⟨x', a0, q0⟩ := get 0 x rfl
      split at hv
      case h_2 => cases hv
      rename_i t ht
      split at hv
      · rename_i v2 hl
        cases hv
        exact fin rfl (alen_ok ht s hl a0 q0)
      · obtain ⟨y, h1, h2⟩ := one hv
        cases h2
        exact fin rfl (alenMap_ok ht s h1 a0 q0)
    · rename_i s1 x
      obtain ⟨s1', a0, q0⟩ := get 0 s1 rfl
      obtain ⟨x', a1, q1⟩ := get 1 x rfl
      split at hv
      case h_2 => cases hv
      rename_i t t2 ht ht2
      split at hv
      case h_2 => cases hv
      rename_i k hk
      split at hv
      case isFalse => cases hv
      rename_i hn
      exact fin rfl (aappend_ok ht ht2 hk hn s hv a0 a1 q0 q1)
    · rename_i s1 x
      obtain ⟨s1', a0, q0⟩ := get 0 s1 rfl
      obtain ⟨x', a1, q1⟩ := get 1 x rfl
      split at hv
      case h_2 => cases hv
      rename_i t ht
      split at hv
      case h_2 => cases hv
      rename_i k hk
      exact fin rfl (acopy_ok ht hk s hv a0 a1 q0 q1)
    · rename_i s1 x
      obtain ⟨s1', a0, q0⟩ := get 0 s1 rfl
      obtain ⟨x', a1, q1⟩ := get 1 x rfl
      split at hv
      case h_2 => cases hv
      rename_i t ht
      split at hv
      case h_2 => cases hv
      rename_i k hk
      obtain ⟨y, h1, h2⟩ := one hv
      cases h2
      obtain ⟨kd, kt, et⟩ := k
      exact fin rfl (adelete_ok hk ht s h1 a0 a1 q0 q1)
    · obtain ⟨y, h1, h2⟩ := one hv
      cases h2
      exact fin rfl (aminmax_ok (mx := false) s h1 hargs argTypes ty)
    · obtain ⟨y, h1, h2⟩ := one hv
      cases h2
      exact fin rfl (aminmax_ok (mx := true) s h1 hargs argTypes ty)
    · cases hv
  · cases hv

end
end Go.Proofs.Ytnhnelhcipafeaa.Ab
