/- Operations on values, reading, writing, making: what the abstract ones answer, and that the machine's do the same. -/
import Derived.Test.YtnhnelhcipafeaaAb2
import Derived.Laws.StructEq
set_option linter.unusedSimpArgs false
set_option linter.unusedVariables false
namespace Go.Proofs.Ytnhnelhcipafeaa.Ab
open Go Go.RowKit

/-! ### values -/
def flat1 : Value → Bool
  | .iface _ x => flat x
  | v => flat v
def deepFlat : Value → Bool
  | .agg cs => cs.toList.all flat1
  | v => flat1 v
theorem VR.flat_inv {φ : Emb} {v v' : Value} (hv : flat v = true) (h : VR φ v v') : v' = v := by
  cases h <;> first | rfl | (simp [flat] at hv)
theorem VR.flat1_inv {φ : Emb} {v v' : Value} (hv : flat1 v = true) (h : VR φ v v') : v' = v := by
  cases h <;> first | rfl | (simp [flat1, flat] at hv; done) | skip
  · rename_i t x x' h
    simp only [flat1] at hv
    rw [h.flat_inv hv]
theorem VR.flat1_self {φ : Emb} {v : Value} (hv : flat1 v = true) : VR φ v v := by
  cases v <;> first | exact .flt _ hv | (simp [flat1, flat] at hv; done) | skip
  · rename_i t x
    exact .iface _ _ _ (.flt _ hv)
theorem VRs.flat1_inv {φ : Emb} : ∀ {r r' : List Value}, r.all flat1 = true → VRs φ r r' → r' = r
  | _, _, _, .nil => rfl
  | _, _, h, .cons _ _ _ _ hx hr => by
    simp only [List.all_cons, Bool.and_eq_true] at h
    rw [hx.flat1_inv h.1, VRs.flat1_inv h.2 hr]
theorem VRs.flat1_self {φ : Emb} : ∀ {r : List Value}, r.all flat1 = true → VRs φ r r
  | [], _ => .nil
  | _ :: _, h => by
    simp only [List.all_cons, Bool.and_eq_true] at h
    exact .cons _ _ _ _ (VR.flat1_self h.1) (VRs.flat1_self h.2)
theorem VR.deep_inv {φ : Emb} {v v' : Value} (hv : deepFlat v = true) (h : VR φ v v') : v' = v := by
  cases h <;> first | rfl | (simp [deepFlat, flat1, flat] at hv; done) | skip
  · rename_i t x x' h
    exact VR.flat1_inv (v := .iface t x) hv (.iface _ _ _ h)
  · rename_i c c' h
    have := VRs.flat1_inv hv h
    rw [show c' = c from Array.toList_inj.1 this]
theorem VR.deep_self {φ : Emb} {v : Value} (hv : deepFlat v = true) : VR φ v v := by
  cases v <;> first | exact VR.flat1_self hv | skip
  · exact .agg _ _ (VRs.flat1_self hv)
theorem VR.cells {φ : Emb} {v v' : Value} (h : VR φ v v') (hv : v ≠ junk) : VRs φ v.cells.toList v'.cells.toList := by
  cases h <;> first | (exact absurd rfl hv) | (exact .cons _ _ _ _ (by constructor <;> assumption) .nil) | skip
  · rename_i h
    cases v <;> first | exact .cons _ _ _ _ (.flt _ h) .nil | (simp [flat] at h)
  · rename_i h; exact h

/-! ### operands -/
def aeval (G : Nat) (T : List Value) : Operand → Value
  | .tmp t => T.getD t (.tuple #[])
  | .const v => if deepFlat v then v else junk
  | .global g => if g < G then .pointer (some ⟨g, 0, none⟩) else junk
  | .func f => .func (.func f) #[] #[]
theorem aeval_ok {G : Nat} {φ : Emb} {h : Heap} {w : World} (s : Sim G φ h w) {T : List Value} {a : Act} (hT : VRs φ T a.tmps.toList) (x : Operand) : VR φ (aeval G T x) (a.eval x) := by
  cases x with
  | tmp t =>
    simp only [aeval, Act.eval]
    cases e : T[t]? with
    | none =>
      have hlen := hT.length
      have : a.tmps.size ≤ t := by
        rw [List.getElem?_eq_none_iff] at e; simp at hlen; omega
      rw [List.getD_eq_getElem?_getD, e, Array.getD_eq_getD_getElem?, Array.getElem?_eq_none this]
      exact .tuple _ _ .nil
    | some v =>
      obtain ⟨v', e', k⟩ := hT.get e
      rw [List.getD_eq_getElem?_getD, e]
      rw [Array.getElem?_toList] at e'
      rw [Array.getD_eq_getD_getElem?, e']
      exact k
  | const v =>
    simp only [aeval, Act.eval]
    split
    · rename_i hv; exact VR.deep_self hv
    · exact .any _
  | global g =>
    simp only [aeval, Act.eval]
    split
    · rename_i hg
      obtain ⟨l, e, k1, k2⟩ := s.glob g hg
      have := VR.ptr (φ := φ) g 0 l e
      rw [k1, k2] at this
      exact this
    · exact .any _
  | func f => exact .func _ _ _ _ _ .nil .nil

/-! ### runs that ask nothing of the world -/
def prun (P : Program) {α : Type} : Sem α → Option α
  | .pure a => some a
  | .program k => prun P (k P)
  | .mark _ k => prun P k
  | _ => none
theorem prun_run {P : Program} {α : Type} (s : Sem α) {a : α} (h : prun P s = some a) (w : World) : s.run P w = .ok a w := by
  induction s <;> first | (simp [prun] at h; done) | skip
  · simp [prun] at h; subst h; rfl
  · rename_i k ih; exact ih P h
  · rename_i k ih; exact ih h
def prunF (P : Program) (s : Sem Value) : Option Value := (prun P s).bind fun v => if deepFlat v then some v else none
theorem prunF_run {P : Program} {s : Sem Value} {v : Value} (h : prunF P s = some v) (w : World) : s.run P w = .ok v w ∧ deepFlat v = true := by
  simp only [prunF, Option.bind_eq_some_iff] at h
  obtain ⟨x, hx, hv⟩ := h
  split at hv
  · cases hv; exact ⟨prun_run s hx w, by assumption⟩
  · cases hv

/-- What an abstract step says of the machine's. -/
def OpOk (G : Nat) (P : Program) (s : Sem Value) (φ : Emb) (h : Heap) (w : World) (v : Value) (h' : Heap) : Prop :=
  ∃ v' w' φ', s.run P w = .ok v' w' ∧ VR φ' v v' ∧ Post G φ h w φ' h' w'
theorem OpOk.still {G : Nat} {P : Program} {s : Sem Value} {φ : Emb} {h : Heap} {w : World} {v v' : Value} (sim : Sim G φ h w) (hr : s.run P w = .ok v' w) (hv : VR φ v v') : OpOk G P s φ h w v h :=
  ⟨v', w, φ, hr, hv, Post.refl sim⟩

/-! ### types -/
def tin (P : Program) (t : TypeId) : Option (Bool × Nat) :=
  match P.underlying t, P.info? t with
  | some d, some i => some ((match d with | .struct _ => true | .array _ _ => true | _ => false), i.size)
  | _, _ => none
def tz (P : Program) (t : TypeId) : Option (List Value) :=
  match P.info? t with
  | some i => match i.zero with
    | some z => if deepFlat z then some z.cells.toList else none
    | none => none
  | none => none
theorem tin_run {P : Program} {t : TypeId} {g : Bool} {n : Nat} (h : tin P t = some (g, n)) (w : World) : (isAgg t).run P w = .ok g w ∧ (sizeOf t).run P w = .ok n w := by
  unfold tin at h
  split at h
  · rename_i d i hd hi
    cases h
    constructor
    · simp only [isAgg, Sem.run_bind, run_underlying hd, Result.andThen_ok]
      cases d <;> rfl
    · simp [sizeOf, typeInfo, Sem.run_bind, hi]
  · cases h
theorem tz_run {P : Program} {t : TypeId} {z : List Value} (h : tz P t = some z) (w : World) : ∃ v, (zeroValue t).run P w = .ok v w ∧ v.cells.toList = z ∧ deepFlat v = true := by
  unfold tz at h
  split at h
  case h_2 => cases h
  rename_i i hi
  split at h
  case h_2 => cases h
  rename_i v hv
  split at h
  case isFalse => cases h
  cases h
  exact ⟨v, by simp [zeroValue, typeInfo, Sem.run_bind, hi, hv], rfl, by assumption⟩

theorem add_none (b o j : Nat) : (⟨b, o, none⟩ : Addr).add j = ⟨b, o + j, none⟩ := by
  unfold Addr.add
  split
  · subst_vars; rfl
  · rfl

/-! ### reading and writing variables -/
def aload (g : Bool) (n : Nat) (a : Value) (h : Heap) : Option Value :=
  match a with
  | .pointer (some ⟨id, o, none⟩) =>
    match h[id]? with
    | some (.cells c _ _ _) => if g then (if o + n ≤ c.length then some (.agg ((c.drop o).take n).toArray) else none) else c[o]?
    | _ => none
  | _ => none
theorem VR.ptr_inv {φ : Emb} {id o : Nat} {v' : Value} (h : VR φ (.pointer (some ⟨id, o, none⟩)) v') : ∃ l, φ id = some l ∧ v' = .pointer (some ⟨l.b, l.sh + o, none⟩) := by
  cases h with
  | flt _ h => simp [flat] at h
  | ptr _ _ l h => exact ⟨l, h, rfl⟩
theorem run_loadCells' {G : Nat} {P : Program} {φ : Emb} {h : Heap} {w : World} (s : Sim G φ h w) {id es o n : Nat} {c : List Value} {k : Option Nat} {rw : Bool} (e : h[id]? = some (.cells c es k rw)) {l : Loc} (hl : φ id = some l) (hn : o + n ≤ c.length) :
    ∃ C, (loadCells ⟨l.b, l.sh + o, none⟩ n).run P w = .ok C w ∧ VRs φ ((c.drop o).take n) C.toList := by
  refine ⟨_, run_loadCells w _ n (fun j => (w.cell? ⟨l.b, l.sh + (o + j), none⟩).getD (.tuple #[])) ?_, ?_⟩
  · intro j hj
    obtain ⟨v', a, b⟩ := s.load e hl (o := o + j) (List.getElem?_eq_getElem (by omega))
    rw [add_none, a, show l.sh + o + j = l.sh + (o + j) from by omega, a]; rfl
  · refine VRs.of_get (by simp; omega) fun j v hj => ?_
    have hjn : j < n := by
      apply Classical.byContradiction; intro hh
      rw [List.getElem?_eq_none (by simp; omega)] at hj; cases hj
    rw [List.getElem?_take_of_lt hjn, List.getElem?_drop] at hj
    obtain ⟨v', a, b⟩ := s.load e hl hj
    exact ⟨v', by simp [hjn, a], b⟩
theorem aload_ok {G : Nat} {P : Program} {t : TypeId} {g : Bool} {n : Nat} (ht : tin P t = some (g, n)) {φ : Emb} {h : Heap} {w : World} (s : Sim G φ h w) {a a' v : Value} (hv : aload g n a h = some v) (ha : VR φ a a') :
    ∃ v', (Instr.loadAt t a').run P w = .ok v' w ∧ VR φ v v' := by
  unfold aload at hv
  split at hv
  case h_2 => cases hv
  rename_i id o
  obtain ⟨l, hl, rfl⟩ := ha.ptr_inv
  split at hv
  case h_2 => cases hv
  rename_i c es k rw e
  obtain ⟨q1, q2⟩ := tin_run ht w
  cases g with
  | true =>
    simp only [if_true] at hv
    split at hv
    case isFalse => cases hv
    rename_i hn
    cases hv
    obtain ⟨C, hC, hr⟩ := run_loadCells' (P := P) s e hl hn
    exact ⟨.agg C, by simp [Instr.loadAt, Instr.sureAddr, loadVar, Sem.run_bind, q1, q2, hC], .agg _ _ (by simpa using hr)⟩
  | false =>
    simp only [Bool.false_eq_true, if_false] at hv
    obtain ⟨v', a, b⟩ := s.load e hl hv
    exact ⟨v', by simp [Instr.loadAt, Instr.sureAddr, loadVar, Sem.run_bind, q1, run_load, a], b⟩

def acells : Value → List Value
  | .agg cs => cs.toList
  | v => [v]
theorem acells_eq (v : Value) : v.cells.toList = acells v := by cases v <;> rfl
def astore (n : Nat) (a v : Value) (h : Heap) : Option Heap :=
  match a with
  | .pointer (some ⟨id, o, none⟩) => if (acells v).length = n then astores h id o (acells v) else none
  | _ => none
theorem astores_ok {G : Nat} {P : Program} {φ : Emb} {l : Loc} {id : Nat} (hl : φ id = some l) : ∀ (vs vs' : List Value) (h h' : Heap) (w : World) (o i : Nat), Sim G φ h w → astores h id (o + i) vs = some h' → VRs φ vs vs' →
    ∃ w', (storeCells ⟨l.b, l.sh + o, none⟩ vs' i).run P w = .ok () w' ∧ Post G φ h w φ h' w' := by
  intro vs
  induction vs with
  | nil =>
    intro vs' h h' w o i s hs hv
    cases hv
    simp [astores] at hs; subst hs
    exact ⟨w, rfl, Post.refl s⟩
  | cons v vs ih =>
    intro vs' h h' w o i s hs hv
    cases hv with
    | cons _ v' _ vs' hx hr =>
    simp only [astores, Option.bind_eq_some_iff] at hs
    obtain ⟨h1, hs1, hs2⟩ := hs
    obtain ⟨⟨u, g1⟩, g2, g3, p⟩ := post_store s hs1 hl hx
    obtain ⟨w', r, q⟩ := ih vs' h1 h' _ o (i + 1) p.sim hs2 hr
    refine ⟨w', ?_, Post.trans s p q⟩
    simp only [storeCells, Sem.run_bind, add_none]
    rw [show l.sh + o + i = l.sh + (o + i) from by omega, run_store _ _ _ _ _ g3, g1, g2]
    simpa using r
theorem astore_ok {G : Nat} {P : Program} {t : TypeId} {g : Bool} {n : Nat} (ht : tin P t = some (g, n)) {φ : Emb} {h h' : Heap} {w : World} (s : Sim G φ h w) {a a' v v' : Value} (hs : astore n a v h = some h') (ha : VR φ a a') (hv : VR φ v v') :
    ∃ w', (Instr.storeAt t a' v').run P w = .ok () w' ∧ Post G φ h w φ h' w' := by
  unfold astore at hs
  split at hs
  case h_2 => cases hs
  rename_i id o
  obtain ⟨l, hl, rfl⟩ := ha.ptr_inv
  split at hs
  case isFalse => cases hs
  rename_i hn
  by_cases hu : v = junk
  · subst hu
    simp only [acells, astores, astore1, Option.bind_eq_some_iff] at hs
    obtain ⟨h1, hs1, _⟩ := hs
    split at hs1
    · simp [okCell] at hs1
    · cases hs1
  have hc := hv.cells hu
  rw [acells_eq] at hc
  obtain ⟨w', r, p⟩ := astores_ok (P := P) hl _ _ h h' w o 0 s hs hc
  refine ⟨w', ?_, p⟩
  have hlen := hc.length
  simp only [Instr.storeAt, Instr.sureAddr, storeVar, Sem.run_bind, Sem.run_pure, Result.andThen_ok, (tin_run ht w).2]
  rw [if_neg]
  · simpa using r
  · simp at hlen; omega

end Go.Proofs.Ytnhnelhcipafeaa.Ab
