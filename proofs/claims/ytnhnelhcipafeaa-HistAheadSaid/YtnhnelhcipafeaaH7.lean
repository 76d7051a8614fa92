/- What holds of the ops of a history. -/
import Derived.Test.YtnhnelhcipafeaaH6
set_option linter.unusedSimpArgs false
set_option linter.unusedVariables false
namespace Go.Proofs.Ytnhnelhcipafeaa.Ab
open Go Go.RowKit Go.Proofs
theorem mfind_none : ∀ (m : List (Int × Int × Nat)) (t : Int) (i : Nat), mfind m t i = none → ∀ p, p ∈ m → p.1 ≠ t
  | [], _, _, _, p, hp => by simp at hp
  | q :: r, t, i, h, p, hp => by
    simp only [mfind] at h
    split at h
    · cases h
    · rename_i hq
      rcases List.mem_cons.1 hp with rfl | hp
      · exact hq
      · exact mfind_none r t (i + 1) h p hp
theorem mfind_some : ∀ (m : List (Int × Int × Nat)) (t : Int) (i j : Nat) (v : Int), mfind m t i = some (j, v) → ∃ b, i ≤ j ∧ m[j - i]? = some (t, v, b)
  | [], _, _, _, _, h => by simp [mfind] at h
  | q :: r, t, i, j, v, h => by
    simp only [mfind] at h
    split at h
    · rename_i hq
      cases h
      exact ⟨q.2.2, Nat.le_refl _, by simp [← hq]⟩
    · obtain ⟨b, h1, h2⟩ := mfind_some r t (i + 1) j v h
      refine ⟨b, by omega, ?_⟩
      rw [show j - i = (j - (i + 1)) + 1 by omega]
      simpa using h2
/-- What holds of a history that was read as far as the event i. -/
structure HInv (i : Int) (s : RS) : Prop where
  frm : ∀ (k : Nat) (x : OpT), s.L[k]? = some x → x.frm < i
  done : ∀ (k : Nat) (x : OpT), s.L[k]? = some x → x.done = true → x.frm < x.to ∧ x.to < i
  opn : ∀ (k : Nat) (x : OpT), s.L[k]? = some x → x.done = false → ∃ b, (x.t, (k : Int), b) ∈ s.m
  ent : ∀ p, p ∈ s.m → ∃ (k : Nat) (x : OpT), p.2.1 = (k : Int) ∧ s.L[k]? = some x ∧ x.t = p.1 ∧ x.done = false
  uni : s.m.Pairwise fun p q => p.1 ≠ q.1
  ord : ∀ (k l : Nat) (x y : OpT), k < l → s.L[k]? = some x → s.L[l]? = some y → x.t = y.t → x.done = true ∧ x.to < y.frm
theorem HInv.zero : HInv 0 .none := by
  constructor <;> simp [RS.none]
theorem HInv.step {many i : Int} {e : EvT} {s : RS} (h : HInv i s) (hc : (rev many i e s).1 = 0) : HInv (i + 1) (rev many i e s).2 := by
  unfold rev at hc ⊢
  by_cases hb : e.t < 0 ∨ 64 ≤ e.t
  · rw [if_pos hb] at hc; simp at hc
  rw [if_neg hb] at hc ⊢
  cases hf : mfind s.m e.t 0 with
  | none =>
    rw [hf] at hc
    simp only at hc ⊢
    cases hr : e.res with
    | true => rw [hr] at hc; simp at hc
    | false =>
    cases hz : e.a.zb with
    | false => rw [hr, hz] at hc; simp at hc
    | true =>
    simp only [Bool.false_eq_true, if_false, if_true]
    have hnew := mfind_none _ _ _ hf
    have get : ∀ (k : Nat) (x : OpT), (s.L ++ [OpT.mk e.t e.c .zero false i many])[k]? = some x → s.L[k]? = some x ∨ (k = s.L.length ∧ x = OpT.mk e.t e.c .zero false i many) := by
      intro k x hx
      by_cases hk : k < s.L.length
      · rw [List.getElem?_append_left hk] at hx; exact .inl hx
      · rw [List.getElem?_append_right (by omega)] at hx
        by_cases hk2 : k - s.L.length = 0
        · rw [hk2] at hx; cases hx; exact .inr ⟨by omega, rfl⟩
        · obtain ⟨z, hz⟩ := Nat.exists_eq_succ_of_ne_zero hk2
          rw [hz] at hx; simp at hx
    refine ⟨fun k x hx => ?_, fun k x hx hd => ?_, fun k x hx hd => ?_, fun p hp => ?_, ?_, fun k l x y hkl hx hy ht => ?_⟩
    · rcases get k x hx with hx | ⟨-, rfl⟩
      · have := h.frm k x hx; omega
      · simp only []; omega
    · rcases get k x hx with hx | ⟨-, rfl⟩
      · have := h.done k x hx hd; omega
      · cases hd
    · rcases get k x hx with hx | ⟨rfl, rfl⟩
      · obtain ⟨b, hb⟩ := h.opn k x hx hd
        exact ⟨b, by simp [hb]⟩
      · exact ⟨s.ck, by simp⟩
    · rcases List.mem_append.1 hp with hp | hp
      · obtain ⟨k, x, a1, a2, a3, a4⟩ := h.ent p hp
        exact ⟨k, x, a1, by rw [List.getElem?_append_left (List.getElem?_eq_some_iff.1 a2).1]; exact a2, a3, a4⟩
      · simp only [List.mem_singleton] at hp
        subst hp
        exact ⟨s.L.length, ⟨e.t, e.c, .zero, false, i, many⟩, rfl, by simp, rfl, rfl⟩
    · rw [List.pairwise_append]
      refine ⟨h.uni, by simp, fun p hp q hq => ?_⟩
      simp only [List.mem_singleton] at hq
      subst hq
      exact hnew p hp
    · rcases get l y hy with hy | ⟨hl, rfl⟩
      · have hk : s.L[k]? = some x := by
          rcases get k x hx with hx | ⟨rfl, -⟩
          · exact hx
          · have := (List.getElem?_eq_some_iff.1 hy).1; omega
        exact h.ord k l x y hkl hk hy ht
      · rcases get k x hx with hx | ⟨rfl, -⟩
        · cases hd : x.done with
          | true => exact ⟨rfl, (h.done k x hx hd).2⟩
          | false =>
            obtain ⟨b, hb⟩ := h.opn k x hx hd
            exact absurd ht (hnew _ hb)
        · omega
  | some ji =>
    obtain ⟨j, v⟩ := ji
    rw [hf] at hc
    simp only at hc ⊢
    obtain ⟨b0, -, hj⟩ := mfind_some _ _ _ _ _ hf
    rw [Nat.sub_zero] at hj
    obtain ⟨k0, x0, hv, hx0, ht0, hd0⟩ := h.ent _ (List.mem_of_getElem? hj)
    simp only at hv ht0
    subst hv
    cases hr : e.res with
    | false => rw [hr] at hc; simp at hc
    | true =>
    rw [Int.toNat_natCast, hx0, hr] at hc
    rw [Int.toNat_natCast, hx0]
    simp only [if_true] at hc ⊢
    cases hcq : x0.c.eqb e.c with
    | false => rw [hcq] at hc; simp at hc
    | true =>
    simp only [if_true]
    have hk0 := (List.getElem?_eq_some_iff.1 hx0).1
    have get : ∀ (k : Nat) (x : OpT), (s.L.set k0 { x0 with a := e.a, done := true, to := i })[k]? = some x → (k ≠ k0 ∧ s.L[k]? = some x) ∨ (k = k0 ∧ x = { x0 with a := e.a, done := true, to := i }) := by
      intro k x hx
      by_cases hk : k = k0
      · subst hk
        rw [List.getElem?_set_self hk0] at hx
        cases hx; exact .inr ⟨rfl, rfl⟩
      · rw [List.getElem?_set_ne (Ne.symm hk)] at hx
        exact .inl ⟨hk, hx⟩
    have f0 := h.frm k0 x0 hx0
    have key : ∀ p, p ∈ s.m → p.2.1 = (k0 : Int) → p = (e.t, (k0 : Int), b0) := by
      intro p hp hpv
      obtain ⟨n, hn⟩ := List.getElem?_of_mem hp
      obtain ⟨k, x, a1, a2, a3, a4⟩ := h.ent p hp
      have : k = k0 := by omega
      subst this
      rw [hx0] at a2; cases a2
      have hpt : p.1 = e.t := by rw [← a3, ht0]
      have hpw := List.pairwise_iff_getElem.1 h.uni
      obtain ⟨l1, e1⟩ := List.getElem?_eq_some_iff.1 hn
      obtain ⟨l2, e2⟩ := List.getElem?_eq_some_iff.1 hj
      rcases Nat.lt_trichotomy n j with hnj | hnj | hnj
      · exact absurd (by rw [e1, e2, hpt]) (hpw n j l1 l2 hnj)
      · subst hnj; rw [← e1, e2]
      · exact absurd (by rw [e1, e2, hpt]) (hpw j n l2 l1 hnj)
    refine ⟨fun k x hx => ?_, fun k x hx hd => ?_, fun k x hx hd => ?_, fun p hp => ?_, h.uni.sublist (List.eraseIdx_sublist _ _), fun k l x y hkl hx hy ht => ?_⟩
    · rcases get k x hx with ⟨-, hx⟩ | ⟨-, rfl⟩
      · have := h.frm k x hx; omega
      · simp only []; omega
    · rcases get k x hx with ⟨-, hx⟩ | ⟨-, rfl⟩
      · have := h.done k x hx hd; omega
      · simp only []; omega
    · rcases get k x hx with ⟨hk, hx⟩ | ⟨-, rfl⟩
      · obtain ⟨b, hb⟩ := h.opn k x hx hd
        refine ⟨b, ?_⟩
        obtain ⟨n, hn⟩ := List.getElem?_of_mem hb
        rw [List.mem_eraseIdx_iff_getElem?]
        refine ⟨n, ?_, hn⟩
        rintro rfl
        rw [hj] at hn
        have := congrArg (fun o => o.map fun p => p.2.1) hn
        simp only [Option.map_some, Option.some.injEq] at this
        omega
      · cases hd
    · have hp' := List.mem_of_mem_eraseIdx hp
      obtain ⟨k, x, a1, a2, a3, a4⟩ := h.ent p hp'
      refine ⟨k, x, a1, ?_, a3, a4⟩
      have hk : k ≠ k0 := by
        rintro rfl
        have hpe := key p hp' a1
        rw [List.mem_eraseIdx_iff_getElem?] at hp
        obtain ⟨n, hnj, hn⟩ := hp
        have hpw := List.pairwise_iff_getElem.1 h.uni
        obtain ⟨l1, e1⟩ := List.getElem?_eq_some_iff.1 hn
        obtain ⟨l2, e2⟩ := List.getElem?_eq_some_iff.1 hj
        rcases Nat.lt_or_gt_of_ne hnj with hlt | hlt
        · exact hpw n j l1 l2 hlt (by rw [e1, e2, hpe])
        · exact hpw j n l2 l1 hlt (by rw [e1, e2, hpe])
      rw [List.getElem?_set_ne (Ne.symm hk)]; exact a2
    · rcases get k x hx with ⟨hk, hx'⟩ | ⟨hk, hx'⟩
      · rcases get l y hy with ⟨hl, hy'⟩ | ⟨hl, hy'⟩
        · exact h.ord k l x y hkl hx' hy' ht
        · rw [hy'] at ht ⊢
          rw [hl] at hkl
          exact h.ord k k0 x x0 hkl hx' hx0 ht
      · rcases get l y hy with ⟨hl, hy'⟩ | ⟨hl, hy'⟩
        · rw [hx'] at ht
          rw [hk] at hkl
          have := h.ord k0 l x0 y hkl hx0 hy' ht
          rw [hd0] at this; cases this.1
        · omega
theorem HInv.run {many : Int} : ∀ (E : List EvT) (i : Int) (s : RS), HInv i s → (rrun many E i s).1 = 0 → ∃ i', HInv i' (rrun many E i s).2
  | [], i, s, h, _ => ⟨i, h⟩
  | e :: r, i, s, h, hc => by
    rw [rrun] at hc ⊢
    by_cases h0 : (rev many i e s).1 = 0
    · rw [if_pos h0] at hc ⊢
      exact HInv.run r (i + 1) _ (h.step h0) hc
    · rw [if_neg h0] at hc; exact absurd hc h0
/-- What the law asks of ops. -/
structure Good (L : List OpT) : Prop where
  anti : ∀ (i k : Nat) (x y : OpT), L[i]? = some x → L[k]? = some y → (x.ahead y && y.ahead x) = false
  thread : ∀ (i k : Nat) (x y : OpT), L[i]? = some x → L[k]? = some y → i < k → x.t = y.t → x.ahead y = true
  trans : ∀ (i k j : Nat) (x y z : OpT), L[i]? = some x → L[k]? = some y → L[j]? = some z → x.ahead y = true → y.ahead z = true → x.ahead z = true
theorem HInv.good {i : Int} {s : RS} (h : HInv i s) : Good s.L := by
  refine ⟨fun a b x y hx hy => ?_, fun a b x y hx hy hab ht => ?_, fun a b c x y z hx hy hz h1 h2 => ?_⟩
  · cases hh : (x.ahead y && y.ahead x) with
    | false => rfl
    | true =>
      simp only [OpT.ahead, Bool.and_eq_true, decide_eq_true_eq] at hh
      have := h.done a x hx hh.1.1
      have := h.done b y hy hh.2.1
      omega
  · have := h.ord a b x y hab hx hy ht
    simp only [OpT.ahead, Bool.and_eq_true, decide_eq_true_eq]
    exact this
  · simp only [OpT.ahead, Bool.and_eq_true, decide_eq_true_eq] at h1 h2 ⊢
    have := h.done b y hy h2.1
    exact ⟨h1.1, by omega⟩
end Go.Proofs.Ytnhnelhcipafeaa.Ab
