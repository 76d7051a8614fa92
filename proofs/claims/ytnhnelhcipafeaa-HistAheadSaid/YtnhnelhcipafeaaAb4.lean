/- Operations that make values out of values; new variables. -/
import Derived.Test.YtnhnelhcipafeaaAb3
set_option linter.unusedSimpArgs false
set_option linter.unusedVariables false
namespace Go.Proofs.Ytnhnelhcipafeaa.Ab
open Go Go.RowKit

section
variable {G : Nat} {P : Program} {φ : Emb} {h : Heap} {w : World}

/-! ### parts of structs -/
def apart (gn : Bool × Nat) (off : Nat) (c : List Value) : Option Value :=
  if gn.1 then (if off + gn.2 ≤ c.length then some (.agg ((c.drop off).take gn.2).toArray) else none) else c[off]?
theorem apart_ok {t : TypeId} {gn : Bool × Nat} (ht : tin P t = some gn) {c : List Value} {C : Array Value} {off : Nat} {v : Value} (hv : apart gn off c = some v) (hc : VRs φ c C.toList) (w : World) :
    ∃ v', (part t C off).run P w = .ok v' w ∧ VR φ v v' := by
  obtain ⟨g, n⟩ := gn
  obtain ⟨q1, q2⟩ := tin_run ht w
  unfold apart at hv
  cases g with
  | true =>
    simp only [if_true] at hv
    split at hv
    case isFalse => cases hv
    cases hv
    refine ⟨.agg (C.extract off (off + n)), by simp [part, Sem.run_bind, q1, q2], .agg _ _ ?_⟩
    have := (hc.drop off).take n
    simpa [Array.toList_extract, List.extract_eq_take_drop] using this
  | false =>
    simp only [Bool.false_eq_true, if_false] at hv
    obtain ⟨v', a, b⟩ := hc.get hv
    rw [Array.getElem?_toList] at a
    exact ⟨v', by simp [part, Sem.run_bind, q1, a], b⟩

/-- A field's place and type. -/
def tfield (P : Program) (t : TypeId) (f : Nat) : Option (Nat × Bool × Nat) :=
  match P.underlying t with
  | some (.struct fs) => match fs[f]? with
    | some fd => match tin P fd.type with
      | some (g, n) => if n = 0 then none else some (fd.offset, g, n)
      | none => none
    | none => none
  | _ => none
theorem tfield_run {t : TypeId} {f off n : Nat} {g : Bool} (h : tfield P t f = some (off, g, n)) : ∃ fs fd, P.underlying t = some (.struct fs) ∧ fs[f]? = some fd ∧ fd.offset = off ∧ tin P fd.type = some (g, n) ∧ n ≠ 0 := by
  unfold tfield at h
  split at h
  case h_2 => cases h
  rename_i fs hfs
  split at h
  case h_2 => cases h
  rename_i fd hfd
  split at h
  case h_2 => cases h
  rename_i g' n' ht
  split at h
  case isTrue => cases h
  cases h
  exact ⟨fs, fd, hfs, hfd, rfl, ht, by assumption⟩

def afield (k : Nat × Bool × Nat) : Value → Option Value
  | .agg cs => apart k.2 k.1 cs.toList
  | _ => none
theorem afield_ok {t : TypeId} {f : Nat} {k : Nat × Bool × Nat} (ht : tfield P t f = some k) (s : Sim G φ h w) {x x' v : Value} (hv : afield k x = some v) (hx : VR φ x x') : OpOk G P (Instr.field t x' f) φ h w v h := by
  obtain ⟨off, g, n⟩ := k
  obtain ⟨fs, fd, h1, h2, rfl, h4, h5⟩ := tfield_run ht
  unfold afield at hv
  split at hv
  case h_2 => cases hv
  rename_i cs
  obtain ⟨C, rfl, hC⟩ : ∃ C, x' = .agg C ∧ VRs φ cs.toList C.toList := by
    cases hx with
    | flt _ h => simp [flat] at h
    | agg _ C h => exact ⟨C, rfl, h⟩
  obtain ⟨v', a, b⟩ := apart_ok h4 hv hC w
  exact .still s (by simp [Instr.field, Sem.run_bind, run_underlying h1, h2, asAgg, a]) b

def afieldAddr (k : Nat × Bool × Nat) : Value → Option Value
  | .pointer (some ⟨id, o, none⟩) => some (.pointer (some ⟨id, o + k.1, none⟩))
  | _ => none
theorem VR.ptr_mk {id o : Nat} {l : Loc} (hl : φ id = some l) (j : Nat) : VR φ (.pointer (some ⟨id, o + j, none⟩)) (.pointer (some ⟨l.b, l.sh + o + j, none⟩)) := by
  have := VR.ptr (φ := φ) id (o + j) l hl
  rwa [show l.sh + (o + j) = l.sh + o + j from by omega] at this
theorem afieldAddr_ok {t : TypeId} {f : Nat} {k : Nat × Bool × Nat} (ht : tfield P t f = some k) (s : Sim G φ h w) {x x' v : Value} (hv : afieldAddr k x = some v) (hx : VR φ x x') : OpOk G P (Instr.fieldAt t x' f) φ h w v h := by
  obtain ⟨off, g, n⟩ := k
  obtain ⟨fs, fd, h1, h2, rfl, h4, h5⟩ := tfield_run ht
  unfold afieldAddr at hv
  split at hv
  case h_2 => cases hv
  rename_i id o
  cases hv
  obtain ⟨l, hl, rfl⟩ := hx.ptr_inv
  refine .still s (v' := .pointer (some ((⟨l.b, l.sh + o, none⟩ : Addr).add fd.offset))) ?_ ?_
  · simp [Instr.fieldAt, Sem.run_bind, run_underlying h1, h2, Instr.sureAddr, fieldPlace, (tin_run h4 w).2, h5]
  · rw [add_none]; exact VR.ptr_mk hl _

/-! ### indexes -/
/-- An indexed type: an array's length; the size of an element. -/
def tix (P : Program) (t : TypeId) : Option (Option Nat × Bool × Nat) :=
  match P.underlying t with
  | some (.slice e) => (tin P e).map fun gn => (none, gn)
  | some (.array len e) => (tin P e).map fun gn => (some len, gn)
  | _ => none
theorem tix_slice {t : TypeId} {gn : Bool × Nat} (h : tix P t = some (none, gn)) : ∃ e, P.underlying t = some (.slice e) ∧ tin P e = some gn := by
  unfold tix at h
  split at h
  · rename_i e he
    cases ht : tin P e with
    | none => simp [ht] at h
    | some x => simp [ht] at h; subst h; exact ⟨e, he, ht⟩
  · rename_i len e he
    cases ht : tin P e <;> simp [ht] at h
  · cases h
theorem tix_array {t : TypeId} {len : Nat} {gn : Bool × Nat} (h : tix P t = some (some len, gn)) : ∃ e, P.underlying t = some (.array len e) ∧ tin P e = some gn := by
  unfold tix at h
  split at h
  · rename_i e he
    cases ht : tin P e <;> simp [ht] at h
  · rename_i len e he
    cases ht : tin P e with
    | none => simp [ht] at h
    | some x => simp [ht] at h; obtain ⟨rfl, rfl⟩ := h; exact ⟨e, he, ht⟩
  · cases h
theorem VR.int_inv {k : IntKind} {n : Int} {v' : Value} (h : VR φ (.int k n) v') : v' = .int k n := h.flat_inv rfl
theorem VR.slice_inv {id o n c : Nat} {v' : Value} (h : VR φ (.slice (some ⟨id, o, none⟩) n c) v') :
    ∃ a c' l, φ id = some l ∧ v' = .slice (some a) n c' ∧ n ≤ c' ∧ (c = c' ∨ c = unk) ∧ (c' = 0 ∨ a = ⟨l.b, l.sh + o, none⟩ ∧ (l.ro = true ∨ o + c' * l.es ≤ l.sz)) := by
  cases h with
  | flt _ h => simp [flat] at h
  | slice _ _ _ _ a c' l h hn hc ha => exact ⟨a, c', l, h, rfl, hn, hc, ha⟩

def aindexAddr (k : Option Nat × Bool × Nat) (x i : Value) : Option Value :=
  match k.1, x, i with
  | none, .slice (some ⟨id, o, none⟩) len _, .int _ i => if 0 ≤ i ∧ i < len then some (.pointer (some ⟨id, o + i.toNat * k.2.2, none⟩)) else none
  | some len, .pointer (some ⟨id, o, none⟩), .int _ i => if 0 ≤ i ∧ i < len then some (.pointer (some ⟨id, o + i.toNat * k.2.2, none⟩)) else none
  | _, _, _ => none
theorem aindexAddr_ok {t : TypeId} {k : Option Nat × Bool × Nat} (ht : tix P t = some k) (s : Sim G φ h w) {x x' i i' v : Value} (hv : aindexAddr k x i = some v) (hx : VR φ x x') (hi : VR φ i i') : OpOk G P (Instr.indexAt t x' i') φ h w v h := by
  obtain ⟨_ | len, g, n⟩ := k
  · unfold aindexAddr at hv
    split at hv
    · rename_i id o len c kk i _
      obtain ⟨e, h1, h2⟩ := tix_slice ht
      obtain ⟨a, c', l, hl, rfl, hn, hc, ha⟩ := hx.slice_inv
      have := hi.int_inv; subst this
      split at hv
      case isFalse => cases hv
      rename_i hb
      cases hv
      obtain ⟨rfl, -⟩ := ha.resolve_left (by omega)
      refine .still s (v' := .pointer (some ((⟨l.b, l.sh + o, none⟩ : Addr).add (i.toNat * n)))) ?_ ?_
      · simp [Instr.indexAt, Sem.run_bind, asIntOf, run_underlying h1, hb, (tin_run h2 w).2]
      · rw [add_none]; exact VR.ptr_mk hl _
    · rename_i hn; cases hn
    · cases hv
  · unfold aindexAddr at hv
    split at hv
    · rename_i hn; cases hn
    · rename_i len' id o kk i hn
      cases hn
      obtain ⟨e, h1, h2⟩ := tix_array ht
      obtain ⟨l, hl, rfl⟩ := hx.ptr_inv
      have := hi.int_inv; subst this
      split at hv
      case isFalse => cases hv
      rename_i hb
      cases hv
      refine .still s (v' := .pointer (some ((⟨l.b, l.sh + o, none⟩ : Addr).add (i.toNat * n)))) ?_ ?_
      · simp [Instr.indexAt, Sem.run_bind, asIntOf, run_underlying h1, Instr.sureAddr, hb, (tin_run h2 w).2]
      · rw [add_none]; exact VR.ptr_mk hl _
    · cases hv

def isString (P : Program) (t : TypeId) : Bool := match P.underlying t with | some .string => true | _ => false
theorem isString_run {t : TypeId} (h : isString P t = true) : P.underlying t = some .string := by
  unfold isString at h
  split at h <;> simp_all
def aindex (P : Program) (t : TypeId) (x i : Value) : Option Value :=
  match x, i with
  | .string s, .int _ i => if isString P t then (match (if 0 ≤ i then s[i.toNat]? else none) with | some b => some (.int .u8 b.toNat) | none => none) else none
  | .agg cs, .int _ i => match tix P t with
    | some (some len, gn) => if 0 ≤ i ∧ i < len then apart gn (i.toNat * gn.2) cs.toList else none
    | _ => none
  | _, _ => none
theorem VR.agg_inv {cs : Array Value} {v' : Value} (h : VR φ (.agg cs) v') : ∃ C, v' = .agg C ∧ VRs φ cs.toList C.toList := by
  cases h with
  | flt _ h => simp [flat] at h
  | agg _ C h => exact ⟨C, rfl, h⟩
theorem aindex_ok {t : TypeId} (s : Sim G φ h w) {x x' i i' v : Value} (hv : aindex P t x i = some v) (hx : VR φ x x') (hi : VR φ i i') : OpOk G P (Instr.index t x' i') φ h w v h := by
  unfold aindex at hv
  split at hv
  · rename_i s0 k i
    split at hv
    case isFalse => cases hv
    rename_i ht
    have ht := isString_run ht
    have := hx.flat_inv rfl; subst this
    have := hi.int_inv; subst this
    split at hv
    case h_2 => cases hv
    rename_i b hb
    cases hv
    exact .still s (v' := .int .u8 b.toNat) (by simp [Instr.index, Sem.run_bind, asIntOf, run_underlying ht, hb]) (.flt _ rfl)
  · rename_i cs k i
    split at hv
    case h_2 => cases hv
    rename_i len gn ht
    obtain ⟨e, h1, h2⟩ := tix_array ht
    split at hv
    case isFalse => cases hv
    rename_i hb
    obtain ⟨C, rfl, hC⟩ := hx.agg_inv
    have := hi.int_inv; subst this
    obtain ⟨v', a, b⟩ := apart_ok h2 hv hC w
    obtain ⟨g, n⟩ := gn
    exact .still s (v' := v') (by simp only at a; simp [Instr.index, Sem.run_bind, asIntOf, run_underlying h1, hb, (tin_run h2 w).2, a]) b
  · cases hv

/-! ### new variables -/
def aes (P : Program) (t : TypeId) : Nat := match P.underlying t with | some (.array _ e) => P.cellsOf e | _ => 0
def anew (es : Nat) (c : List Value) (h : Heap) : Value × Heap := (.pointer (some ⟨h.length, 0, none⟩), h ++ [.cells c es none true])
theorem anew_ok (s : Sim G φ h w) (es : Nat) (c : List Value) (C : Array Value) (t : TypeId) (hc : VRs φ c C.toList) :
    ∃ φ', VR φ' (anew es c h).1 (.pointer (some ⟨w.heap.size, 0, none⟩)) ∧ Post G φ h w φ' (anew es c h).2 (w.alloc (.cells C t (0, 0))) := by
  refine ⟨_, ?_, post_cells s c C t es none (fun _ e => by cases e) (by have := hc.length; simp at this; omega) fun j v hj => ?_⟩
  · exact VR.ptr _ 0 _ (Emb.upd_same _ _ _)
  · obtain ⟨v', a, b⟩ := hc.get hj
    exact ⟨v', by rw [Array.getElem?_toList] at a; exact a, b⟩
theorem run_newVar (t : TypeId) (v : Value) : (newVar t v).run P w = .ok ⟨w.heap.size, 0, none⟩ (w.alloc (.cells v.cells t (0, 0))) := rfl
theorem aalloc_ok {t : TypeId} {z : List Value} (ht : tz P t = some z) (s : Sim G φ h w) (es : Nat) : OpOk G P (Instr.alloc t true (.tuple #[])) φ h w (anew es z h).1 (anew es z h).2 := by
  obtain ⟨v, hr, hz, hd⟩ := tz_run ht w
  have hv : VRs φ z v.cells.toList := by
    rw [← hz]
    refine VRs.flat1_self ?_
    cases v <;> first | exact hd | (simp [Value.cells]; exact hd)
  obtain ⟨φ', a, b⟩ := anew_ok s es z v.cells t hv
  exact ⟨_, _, φ', by simp [Instr.alloc, Sem.run_bind, hr, run_newVar], a, b⟩
def abox (es : Nat) (x : Value) (h : Heap) : Option (Value × Heap) :=
  match x with
  | .chan _ => none
  | x => some (anew es (acells x) h)
theorem abox_ok {t : TypeId} (s : Sim G φ h w) {es : Nat} {x x' v : Value} {h' : Heap} (hv : abox es x h = some (v, h')) (hx : VR φ x x') : OpOk G P (Instr.box t x') φ h w v h' := by
  have hne : x ≠ junk := by rintro rfl; simp [abox] at hv
  have hv' : some (anew es (acells x) h) = some (v, h') := by
    unfold abox at hv
    split at hv
    · cases hv
    · exact hv
  cases hv'
  have hc := hx.cells hne
  rw [acells_eq] at hc
  obtain ⟨φ', a, b⟩ := anew_ok s es _ x'.cells t hc
  exact ⟨_, _, φ', by simp [Instr.box, Sem.run_bind, run_newVar], a, b⟩

/-! ### structs and arrays out of their parts -/
inductive PRs (φ : Emb) : List (Nat × Value) → List (Nat × Value) → Prop
  | nil : PRs φ [] []
  | cons (i : Nat) (v v' : Value) (r r' : List (Nat × Value)) (h : VR φ v v') (hr : PRs φ r r') : PRs φ ((i, v) :: r) ((i, v') :: r')
def aput (c : List Value) (o : Nat) : List Value → List Value
  | [] => c
  | v :: vs => aput (c.set o v) (o + 1) vs
def afill (place : Nat → Option (Nat × Nat)) (c : List Value) : List (Nat × Value) → Option (List Value)
  | [] => some c
  | (i, v) :: rest =>
    match place i with
    | none => none
    | some (off, size) => if (acells v).length ≠ size ∨ off + (acells v).length > c.length then none else match v with
      | .chan _ => none
      | _ => afill place (aput c off (acells v)) rest
theorem aput_ok : ∀ (vs vs' : List Value) (c : List Value) (C : Array Value) (o j0 : Nat), VRs φ vs vs' → VRs φ c C.toList →
    VRs φ (aput c (o + j0) vs) ((vs'.zipIdx j0).foldl (fun cs (x : Value × Nat) => cs.setIfInBounds (o + x.2) x.1) C).toList := by
  intro vs
  induction vs with
  | nil => intro vs' c C o j0 h hc; cases h; simpa [aput] using hc
  | cons v vs ih =>
    intro vs' c C o j0 h hc
    cases h with
    | cons _ v' _ vs' hx hr =>
    simp only [aput, List.zipIdx_cons, List.foldl_cons]
    refine ih vs' _ _ o (j0 + 1) hr ?_
    rw [Array.toList_setIfInBounds]
    exact hc.set hx
theorem aput_length : ∀ (vs c : List Value) (o : Nat), (aput c o vs).length = c.length
  | [], _, _ => rfl
  | _ :: vs, c, o => by simp [aput, aput_length vs]
theorem afill_ok {place : Nat → Option (Nat × Nat)} : ∀ (ps ps' : List (Nat × Value)) (c : List Value) (C : Array Value) (r : List Value), afill place c ps = some r → VRs φ c C.toList → PRs φ ps ps' →
    ∃ R, Instr.fill place C ps' = some R ∧ VRs φ r R.toList := by
  intro ps
  induction ps with
  | nil => intro ps' c C r h hc hp; cases hp; cases h; exact ⟨C, rfl, hc⟩
  | cons p ps ih =>
    intro ps' c C r h hc hp
    cases hp with
    | cons i v v' ps ps' hx hr =>
    simp only [afill] at h
    split at h
    · cases h
    rename_i off size hpl
    split at h
    · cases h
    rename_i hn
    have hne : v ≠ junk := by rintro rfl; simp at h
    have h' : afill place (aput c off (acells v)) ps = some r := by
      split at h
      · cases h
      · exact h
    have hcs := hx.cells hne
    rw [acells_eq] at hcs
    have hlen := hcs.length
    have hl2 := hc.length
    simp only [Array.length_toList] at hlen hl2
    have := aput_ok (acells v) v'.cells.toList c C off 0 hcs hc
    obtain ⟨R, a, b⟩ := ih ps' _ _ r h' this hr
    refine ⟨R, ?_, b⟩
    simp only [Instr.fill, hpl]
    rw [if_neg (by simp; omega), ← Array.foldl_toList, Array.toList_zipIdx]
    exact a

end
end Go.Proofs.Ytnhnelhcipafeaa.Ab
