/- Forgetting what a call has made beside its answer. -/
import Derived.Test.YtnhnelhcipafeaaAb15
set_option linter.unusedSimpArgs false
set_option linter.unusedVariables false
namespace Go.Proofs.Ytnhnelhcipafeaa.Ab
open Go Go.RowKit

section
variable {G : Nat} {P : Program}

mutual
theorem VR.restrict {φ φ' : Emb} (hx : Ext φ φ') : ∀ {v u u' : Value}, VR φ v u → VR φ' v u' → VR φ v u'
  | _, _, _, .any _, .any _ => .any _
  | _, _, _, .any _, .flt _ h => by simp [flat] at h
  | _, _, _, .flt _ h, k => by rw [k.flat_inv h]; exact .flt _ h
  | _, _, _, .ptr id o l h, k => by
    obtain ⟨l', hl', rfl⟩ := k.ptr_inv
    rw [hx _ _ h] at hl'; cases hl'
    exact .ptr _ _ _ h
  | _, _, _, .slice id o n c a c' l h hn hc ha, k => by
    obtain ⟨a2, c2, l', hl', rfl, h1, h2, h3⟩ := k.slice_inv
    rw [hx _ _ h] at hl'; cases hl'
    exact .slice _ _ _ _ _ _ _ h h1 h2 h3
  | _, _, _, .map id l h, k => by
    obtain ⟨l', hl', rfl⟩ := k.map_inv
    rw [hx _ _ h] at hl'; cases hl'
    exact .map _ _ h
  | _, _, _, .func fn f f' c c' hf hc, k => by
    obtain ⟨f2, c2, rfl, h1, h2⟩ := k.func_inv
    exact .func _ _ _ _ _ (VRs.restrict hx hf h1) (VRs.restrict hx hc h2)
  | _, _, _, .iface t v v' h, k => by
    obtain ⟨x, rfl, h1⟩ := k.iface_inv
    exact .iface _ _ _ (VR.restrict hx h h1)
  | _, _, _, .agg c c' h, k => by
    obtain ⟨x, rfl, h1⟩ := k.agg_inv
    exact .agg _ _ (VRs.restrict hx h h1)
  | _, _, _, .tuple c c' h, .tuple _ c2 h2 => .tuple _ _ (VRs.restrict hx h h2)
  | _, _, _, .tuple c c' h, .flt _ h2 => by simp [flat] at h2
theorem VRs.restrict {φ φ' : Emb} (hx : Ext φ φ') : ∀ {v u u' : List Value}, VRs φ v u → VRs φ' v u' → VRs φ v u'
  | _, _, _, .nil, .nil => .nil
  | _, _, _, .cons _ _ _ _ h hr, .cons _ _ _ _ k kr => .cons _ _ _ _ (VR.restrict hx h k) (VRs.restrict hx hr kr)
end
theorem ERel.restrict {φ φ' : Emb} (hx : Ext φ φ') : ∀ {e u u' : List MapEntry}, ERel φ e u → ERel φ' e u' → ERel φ e u'
  | [], [], [], _, _ => trivial
  | _ :: _, _ :: _, _ :: _, h, k => ⟨⟨h.1.1, k.1.2.1, k.1.2.2.1, VR.restrict hx h.1.2.2.2 k.1.2.2.2⟩, ERel.restrict hx h.2 k.2⟩
  | [], _ :: _, _, h, _ => h.elim
  | _ :: _, [], _, h, _ => h.elim
  | [], [], _ :: _, _, k => k.elim
  | _ :: _, _ :: _, [], _, k => k.elim
theorem ORel.restrict {φ φ' : Emb} (hx : Ext φ φ') {w w' : World} {id : Nat} {o : AObj} (h : ORel φ w id o) (k : ORel φ' w' id o) : ORel φ w' id o := by
  cases o with
  | dead => exact h
  | cells c es cl rw =>
    obtain ⟨l, C, t, fr, e, h1, h2, h3, h4, h5⟩ := h
    obtain ⟨l', C', t', fr', e', k1, k2, k3, k4, k5⟩ := k
    rw [hx _ _ e] at e'; cases e'
    refine ⟨l, C', t', fr', e, k1, k2, k3, k4, fun j v hj => ?_⟩
    obtain ⟨u, a, b⟩ := h5 j v hj
    obtain ⟨u', a', b'⟩ := k5 j v hj
    exact ⟨u', a', VR.restrict hx b b'⟩
  | map es ck =>
    obtain ⟨l, es1, e, h1, h2⟩ := h
    obtain ⟨l', es2, e', k1, k2⟩ := k
    rw [hx _ _ e] at e'; cases e'
    exact ⟨l, es2, e, k1, ERel.restrict hx h2 k2⟩
  | iter m since seen st =>
    obtain ⟨l, m1, e, h0, h1, h2⟩ := h
    obtain ⟨l', m2, e', _, k1, k2⟩ := k
    rw [hx _ _ e] at e'; cases e'
    refine ⟨l, m2, e, h0, k1, ?_⟩
    rcases h2 with ⟨rfl, rfl⟩ | ⟨i, li, rfl, q1, rfl⟩
    · rcases k2 with ⟨_, rfl⟩ | ⟨i, li, q, _⟩
      · exact .inl ⟨rfl, rfl⟩
      · cases q
    · rcases k2 with ⟨q, _⟩ | ⟨i', li', q, q2, rfl⟩
      · cases q
      · cases q
        rw [hx _ _ q1] at q2; cases q2
        exact .inr ⟨_, _, rfl, q1, rfl⟩

/-- A value that names nothing from n on. -/
def old1 (n : Nat) : Value → Bool
  | .pointer (some ⟨id, _, none⟩) => id < n
  | .slice (some ⟨id, _, none⟩) _ _ => id < n
  | .map (some id) => id < n
  | v => deepFlat v
def old (n : Nat) : Value → Bool
  | .tuple vs => vs.toList.all (old1 n)
  | .agg vs => vs.toList.all (old1 n)
  | v => old1 n v
theorem old1_restrict {φ φ' : Emb} {h : Heap} {w : World} (s : Sim G φ h w) (hx : Ext φ φ') {v u : Value} (ho : old1 h.length v = true) (k : VR φ' v u) : VR φ v u := by
  unfold old1 at ho
  split at ho
  · obtain ⟨l', hl', rfl⟩ := k.ptr_inv
    obtain ⟨l, hl⟩ := s.get_some (by simpa using ho)
    rw [hx _ _ hl] at hl'; cases hl'
    exact .ptr _ _ _ hl
  · obtain ⟨a2, c2, l', hl', rfl, h1, h2, h3⟩ := k.slice_inv
    obtain ⟨l, hl⟩ := s.get_some (by simpa using ho)
    rw [hx _ _ hl] at hl'; cases hl'
    exact .slice _ _ _ _ _ _ _ hl h1 h2 h3
  · obtain ⟨l', hl', rfl⟩ := k.map_inv
    obtain ⟨l, hl⟩ := s.get_some (by simpa using ho)
    rw [hx _ _ hl] at hl'; cases hl'
    exact .map _ _ hl
  · rw [k.deep_inv ho]; exact VR.deep_self ho
theorem old1s_restrict {φ φ' : Emb} {h : Heap} {w : World} (s : Sim G φ h w) (hx : Ext φ φ') : ∀ {v u : List Value}, v.all (old1 h.length) = true → VRs φ' v u → VRs φ v u
  | _, _, _, .nil => .nil
  | _, _, ho, .cons _ _ _ _ k kr => by
    simp only [List.all_cons, Bool.and_eq_true] at ho
    exact .cons _ _ _ _ (old1_restrict s hx ho.1 k) (old1s_restrict s hx ho.2 kr)
theorem old_restrict {φ φ' : Emb} {h : Heap} {w : World} (s : Sim G φ h w) (hx : Ext φ φ') {v u : Value} (ho : old h.length v = true) (k : VR φ' v u) : VR φ v u := by
  unfold old at ho
  split at ho
  · cases k with
    | flt _ h => simp [flat] at h
    | tuple _ c h => exact .tuple _ _ (old1s_restrict s hx ho h)
  · obtain ⟨x, rfl, h1⟩ := k.agg_inv
    exact .agg _ _ (old1s_restrict s hx ho h1)
  · exact old1_restrict s hx ho k

theorem prefix_get {h h' : Heap} (hp : h <+: h') {i : Nat} {o : AObj} (e : h[i]? = some o) : h'[i]? = some o := by
  obtain ⟨t, rfl⟩ := hp
  have : i < h.length := by
    apply Classical.byContradiction; intro hn
    rw [List.getElem?_eq_none (by omega)] at e; cases e
  rw [List.getElem?_append_left this]; exact e
theorem Sim.drop {φ φ' : Emb} {h h' : Heap} {w w' : World} (s : Sim G φ h w) (p : Post G φ h w φ' h' w') (hp : h <+: h') : Sim G φ h w' :=
  ⟨fun i o e => (s.objs i o e).restrict p.ext (p.sim.objs i o (prefix_get hp e)), s.sep, fun i l e => Nat.lt_of_lt_of_le (s.lt i l e) p.frame.size, s.dom, s.glob, s.wf⟩
/-- What is new and not named by the answer is forgotten. -/
theorem Does.drop {f : FuncId} {args : List Value} {h : Heap} {v : Value} (ho : old h.length v = true) (d : Does G P f args h fun r h' => r = v ∧ h <+: h') : Does G P f args h fun r h' => r = v ∧ h' = h := by
  refine ⟨d.1, fun φ w cargs s hv => (d.2 φ w cargs s hv).mono ?_⟩
  rintro e w' ⟨u, r, h', φ', rfl, ⟨rfl, hp⟩, hr, p⟩
  exact ⟨u, r, h, φ, rfl, ⟨rfl, rfl⟩, old_restrict s p.ext ho hr, ⟨Ext.refl _, s.drop p hp, ⟨p.frame.os, p.frame.tape, p.frame.output, p.frame.size, p.frame.keep⟩, fun _ _ e => .inl e, Nat.le_refl _, fun i o hi e hr => ⟨o, e, hr⟩⟩⟩
/-- The same, where more is said of the answer. -/
theorem Does.drop' {f : FuncId} {args : List Value} {h : Heap} {R : Value → Prop} (d : Does G P f args h fun r h' => R r ∧ old h.length r = true ∧ h <+: h') : Does G P f args h fun r h' => R r ∧ h' = h := by
  refine ⟨d.1, fun φ w cargs s hv => (d.2 φ w cargs s hv).mono ?_⟩
  rintro e w' ⟨u, r, h', φ', rfl, ⟨hR, ho, hp⟩, hr, p⟩
  exact ⟨u, r, h, φ, rfl, ⟨hR, rfl⟩, old_restrict s p.ext ho hr, ⟨Ext.refl _, s.drop p hp, ⟨p.frame.os, p.frame.tape, p.frame.output, p.frame.size, p.frame.keep⟩, fun _ _ e => .inl e, Nat.le_refl _, fun i o hi e hr => ⟨o, e, hr⟩⟩⟩

end
end Go.Proofs.Ytnhnelhcipafeaa.Ab
