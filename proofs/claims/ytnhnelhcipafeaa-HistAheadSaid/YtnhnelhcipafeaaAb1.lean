/- Abstract memory: a deterministic picture of the machine's memory, and what it means that a world fits it. -/
import Derived.Below
import Derived.KernelRfl
namespace Go.Proofs.Ytnhnelhcipafeaa.Ab
open Go Go.RowKit

/-- A slice's capacity of which nothing is known but that it holds the slice. -/
def unk : Nat := 4611686018427387904

inductive AObj where
  | dead
  | cells (c : List Value) (es : Nat) (cls : Option Nat) (rw : Bool)
  | map (es : List MapEntry) (clock : Nat)
  | iter (m : Option Nat) (since : Nat) (seen : List Nat) (stepped : Nat)
  deriving Inhabited
abbrev Heap := List AObj
def AObj.rw : AObj → Bool
  | .dead => false
  | .cells _ _ _ rw => rw
  | .map _ _ => true
  | .iter _ _ _ _ => true

/-- Where an abstract object lies: block, first cell, cells, cells of one element; may it be written? -/
structure Loc where
  b : Nat
  sh : Nat
  sz : Nat
  es : Nat
  ro : Bool
abbrev Emb := Nat → Option Loc

/-- A value of which nothing is known. -/
abbrev junk : Value := .chan (some 0)

def flat : Value → Bool
  | .bool _ | .int _ _ | .float _ _ | .complex _ _ _ | .string _ | .pointer none | .slice none 0 0 | .map none | .chan none | .nilFunc | .nilIface => true
  | _ => false

mutual
inductive VR (φ : Emb) : Value → Value → Prop
  | any (v : Value) : VR φ (.chan (some 0)) v
  | flt (v : Value) (h : flat v = true) : VR φ v v
  | ptr (id o : Nat) (l : Loc) (h : φ id = some l) : VR φ (.pointer (some ⟨id, o, none⟩)) (.pointer (some ⟨l.b, l.sh + o, none⟩))
  | slice (id o n c : Nat) (a : Addr) (c' : Nat) (l : Loc) (h : φ id = some l) (hn : n ≤ c') (hc : c = c' ∨ c = unk) (ha : c' = 0 ∨ a = ⟨l.b, l.sh + o, none⟩ ∧ (l.ro = true ∨ o + c' * l.es ≤ l.sz)) :
      VR φ (.slice (some ⟨id, o, none⟩) n c) (.slice (some a) n c')
  | map (id : Nat) (l : Loc) (h : φ id = some l) : VR φ (.map (some id)) (.map (some l.b))
  | func (fn : Fn) (f f' c c' : Array Value) (hf : VRs φ f.toList f'.toList) (hc : VRs φ c.toList c'.toList) : VR φ (.func fn f c) (.func fn f' c')
  | iface (t : TypeId) (v v' : Value) (h : VR φ v v') : VR φ (.iface t v) (.iface t v')
  | agg (c c' : Array Value) (h : VRs φ c.toList c'.toList) : VR φ (.agg c) (.agg c')
  | tuple (c c' : Array Value) (h : VRs φ c.toList c'.toList) : VR φ (.tuple c) (.tuple c')
inductive VRs (φ : Emb) : List Value → List Value → Prop
  | nil : VRs φ [] []
  | cons (v v' : Value) (r r' : List Value) (h : VR φ v v') (hr : VRs φ r r') : VRs φ (v :: r) (v' :: r')
end

def Ext (φ φ' : Emb) : Prop := ∀ id l, φ id = some l → φ' id = some l
theorem Ext.refl (φ : Emb) : Ext φ φ := fun _ _ h => h
theorem Ext.trans {φ φ' φ'' : Emb} (h : Ext φ φ') (k : Ext φ' φ'') : Ext φ φ'' := fun id l e => k id l (h id l e)

mutual
theorem VR.mono {φ φ' : Emb} (hx : Ext φ φ') {v v' : Value} : VR φ v v' → VR φ' v v'
  | .any _ => .any _
  | .flt _ h => .flt _ h
  | .ptr _ _ _ h => .ptr _ _ _ (hx _ _ h)
  | .slice _ _ _ _ _ _ _ h hn hc ha => .slice _ _ _ _ _ _ _ (hx _ _ h) hn hc ha
  | .map _ _ h => .map _ _ (hx _ _ h)
  | .func _ _ _ _ _ hf hc => .func _ _ _ _ _ (VRs.mono hx hf) (VRs.mono hx hc)
  | .iface _ _ _ h => .iface _ _ _ (VR.mono hx h)
  | .agg _ _ h => .agg _ _ (VRs.mono hx h)
  | .tuple _ _ h => .tuple _ _ (VRs.mono hx h)
theorem VRs.mono {φ φ' : Emb} (hx : Ext φ φ') {r r' : List Value} : VRs φ r r' → VRs φ' r r'
  | .nil => .nil
  | .cons _ _ _ _ h hr => .cons _ _ _ _ (VR.mono hx h) (VRs.mono hx hr)
end

theorem VRs.length {φ : Emb} : ∀ {r r' : List Value}, VRs φ r r' → r.length = r'.length
  | _, _, .nil => rfl
  | _, _, .cons _ _ _ _ _ hr => by simp [VRs.length hr]
theorem VRs.get {φ : Emb} : ∀ {r r' : List Value}, VRs φ r r' → ∀ {j : Nat} {v : Value}, r[j]? = some v → ∃ v', r'[j]? = some v' ∧ VR φ v v'
  | _, _, .nil, j, v, h => by simp at h
  | _, _, .cons x x' r r' hx hr, 0, v, h => ⟨x', rfl, by simp at h; exact h ▸ hx⟩
  | _, _, .cons x x' r r' hx hr, j + 1, v, h => by
    obtain ⟨v', e, k⟩ := VRs.get hr (j := j) (v := v) (by simpa using h)
    exact ⟨v', by simpa using e, k⟩
theorem VRs.of_get {φ : Emb} : ∀ {r r' : List Value}, r.length = r'.length → (∀ (j : Nat) (v : Value), r[j]? = some v → ∃ v', r'[j]? = some v' ∧ VR φ v v') → VRs φ r r'
  | [], [], _, _ => .nil
  | [], _ :: _, h, _ => by simp at h
  | _ :: _, [], h, _ => by simp at h
  | x :: r, x' :: r', h, k => by
    refine .cons _ _ _ _ ?_ (VRs.of_get (by simpa using h) fun j v e => ?_)
    · obtain ⟨v', e, q⟩ := k 0 x rfl
      simp at e; exact e ▸ q
    · obtain ⟨v', e', q⟩ := k (j + 1) v (by simpa using e)
      exact ⟨v', by simpa using e', q⟩
theorem VRs.set {φ : Emb} : ∀ {r r' : List Value}, VRs φ r r' → ∀ {j : Nat} {v v' : Value}, VR φ v v' → VRs φ (r.set j v) (r'.set j v')
  | _, _, .nil, j, _, _, _ => by simp; exact .nil
  | _, _, .cons _ _ _ _ hx hr, 0, _, _, h => .cons _ _ _ _ h hr
  | _, _, .cons _ _ _ _ hx hr, j + 1, _, _, h => .cons _ _ _ _ hx (VRs.set hr h)
theorem VRs.append {φ : Emb} : ∀ {r r' s s' : List Value}, VRs φ r r' → VRs φ s s' → VRs φ (r ++ s) (r' ++ s')
  | _, _, _, _, .nil, k => k
  | _, _, _, _, .cons _ _ _ _ hx hr, k => .cons _ _ _ _ hx (VRs.append hr k)
theorem VRs.take {φ : Emb} : ∀ {r r' : List Value}, VRs φ r r' → ∀ n, VRs φ (r.take n) (r'.take n)
  | _, _, .nil, _ => by simp; exact .nil
  | _, _, .cons _ _ _ _ _ _, 0 => .nil
  | _, _, .cons _ _ _ _ hx hr, n + 1 => .cons _ _ _ _ hx (VRs.take hr n)
theorem VRs.drop {φ : Emb} : ∀ {r r' : List Value}, VRs φ r r' → ∀ n, VRs φ (r.drop n) (r'.drop n)
  | _, _, .nil, _ => by simp; exact .nil
  | _, _, .cons _ _ _ _ hx hr, 0 => .cons _ _ _ _ hx hr
  | _, _, .cons _ _ _ _ hx hr, n + 1 => VRs.drop hr n
theorem VRs.undefs {φ : Emb} (n : Nat) : ∀ (r' : List Value), r'.length = n → VRs φ (List.replicate n junk) r' := by
  induction n with
  | zero => intro r' h; cases r' <;> simp_all; exact .nil
  | succ n ih =>
    intro r' h
    cases r' with
    | nil => simp at h
    | cons x r => exact .cons _ _ _ _ (.any _) (ih r (by simpa using h))
theorem VRs.self_flat {φ : Emb} : ∀ (l : List Value), l.all flat = true → VRs φ l l
  | [], _ => .nil
  | x :: r, h => by
    simp only [List.all_cons, Bool.and_eq_true] at h
    exact .cons _ _ _ _ (.flt _ h.1) (VRs.self_flat r h.2)

/-- Map entries: same keys (flat), same stamps, values that fit. -/
def ERel (φ : Emb) : List MapEntry → List MapEntry → Prop
  | [], [] => True
  | e :: r, e' :: r' => (flat e.key = true ∧ e.key = e'.key ∧ e.born = e'.born ∧ VR φ e.val e'.val) ∧ ERel φ r r'
  | _, _ => False
theorem ERel.mono {φ φ' : Emb} (hx : Ext φ φ') : ∀ {r r' : List MapEntry}, ERel φ r r' → ERel φ' r r'
  | [], [], _ => trivial
  | _ :: _, _ :: _, h => ⟨⟨h.1.1, h.1.2.1, h.1.2.2.1, h.1.2.2.2.mono hx⟩, ERel.mono hx h.2⟩
  | [], _ :: _, h => h.elim
  | _ :: _, [], h => h.elim

/-- An object and its block. -/
def ORel (φ : Emb) (w : World) (id : Nat) : AObj → Prop
  | .dead => ∃ l, φ id = some l
  | .cells c es _ rw => ∃ l C t fr, φ id = some l ∧ l.es = es ∧ l.ro = !rw ∧ w.heap[l.b]? = some (.cells C t fr) ∧
      (rw = true → fr = (0, 0) ∧ l.sh + l.sz ≤ C.size ∧ c.length ≤ l.sz) ∧ ∀ (j : Nat) v, c[j]? = some v → ∃ v', C[l.sh + j]? = some v' ∧ VR φ v v'
  | .map es clock => ∃ l es', φ id = some l ∧ w.heap[l.b]? = some (.map es' clock) ∧ ERel φ es es'.toList
  | .iter m since seen stepped => ∃ l m', φ id = some l ∧ l.sh = 0 ∧ w.heap[l.b]? = some (.mapIter m' since seen.toArray stepped) ∧ (m = none ∧ m' = none ∨ ∃ i li, m = some i ∧ φ i = some li ∧ m' = some li.b)

/-- Two written objects that may lie in one block. -/
def Kin : AObj → Loc → AObj → Loc → Prop
  | .cells _ _ k true, l, .cells _ _ k' _, l' => k = k' ∧ k.isSome = true ∧ l.sh = l'.sh
  | .map _ _, _, .map _ _, _ => False
  | .iter _ _ _ _, _, .iter _ _ _ _, _ => False
  | _, _, _, _ => True

/-- A class bears the number of an object that is no later. -/
def WF (h : Heap) : Prop := ∀ (id : Nat) (c : List Value) (es k : Nat) (rw : Bool), h[id]? = some (.cells c es (some k) rw) → k ≤ id
/-- The picture fits the world; the first G objects are the package's variables. -/
structure Sim (G : Nat) (φ : Emb) (h : Heap) (w : World) : Prop where
  objs : ∀ id o, h[id]? = some o → ORel φ w id o
  sep : ∀ id id' o o' l l', h[id]? = some o → h[id']? = some o' → id ≠ id' → φ id = some l → φ id' = some l' → l.b = l'.b → Kin o l o' l'
  lt : ∀ id l, φ id = some l → l.b < w.heap.size
  dom : ∀ id, h.length ≤ id → φ id = none
  glob : ∀ g, g < G → ∃ l, φ g = some l ∧ l.b = g ∧ l.sh = 0
  wf : WF h

/-- What a run that starts with this picture leaves as it was. -/
structure Frame (φ : Emb) (h : Heap) (w w' : World) : Prop where
  os : w'.os = w.os
  tape : w'.tape = w.tape
  output : w'.output = w.output
  size : w.heap.size ≤ w'.heap.size
  keep : ∀ b, b < w.heap.size → (∀ id o l, h[id]? = some o → o.rw = true → φ id = some l → l.b ≠ b) → w'.heap[b]? = w.heap[b]?

structure Post (G : Nat) (φ : Emb) (h : Heap) (w : World) (φ' : Emb) (h' : Heap) (w' : World) : Prop where
  ext : Ext φ φ'
  sim : Sim G φ' h' w'
  frame : Frame φ h w w'
  fresh : ∀ id l, φ' id = some l → φ id = some l ∨ (h.length ≤ id ∧ (w.heap.size ≤ l.b ∨ ∃ id0 o0 l0, h[id0]? = some o0 ∧ o0.rw = true ∧ φ id0 = some l0 ∧ l0.b = l.b))
  len : h.length ≤ h'.length
  shrink : ∀ id o', id < h.length → h'[id]? = some o' → o'.rw = true → ∃ o, h[id]? = some o ∧ o.rw = true

theorem Frame.refl (φ : Emb) (h : Heap) (w : World) : Frame φ h w w := ⟨rfl, rfl, rfl, Nat.le_refl _, fun _ _ _ => rfl⟩
theorem Post.refl {G : Nat} {φ : Emb} {h : Heap} {w : World} (s : Sim G φ h w) : Post G φ h w φ h w :=
  ⟨Ext.refl _, s, Frame.refl _ _ _, fun _ _ e => .inl e, Nat.le_refl _, fun _ o _ e r => ⟨o, e, r⟩⟩
theorem Sim.get_some {G : Nat} {φ : Emb} {h : Heap} {w : World} (s : Sim G φ h w) {id : Nat} (hi : id < h.length) : ∃ l, φ id = some l := by
  have := s.objs id h[id] (by simp [hi])
  revert this
  cases h[id] with
  | dead => exact fun e => e
  | cells => rintro ⟨l, _, _, _, e, _⟩; exact ⟨l, e⟩
  | map => rintro ⟨l, _, e, _⟩; exact ⟨l, e⟩
  | iter => rintro ⟨l, _, e, _⟩; exact ⟨l, e⟩
theorem Post.trans {G : Nat} {φ φ1 φ2 : Emb} {h h1 h2 : Heap} {w w1 w2 : World} (s : Sim G φ h w) (p : Post G φ h w φ1 h1 w1) (q : Post G φ1 h1 w1 φ2 h2 w2) : Post G φ h w φ2 h2 w2 := by
  refine ⟨p.ext.trans q.ext, q.sim, ⟨q.frame.os.trans p.frame.os, q.frame.tape.trans p.frame.tape, q.frame.output.trans p.frame.output, Nat.le_trans p.frame.size q.frame.size, ?_⟩, ?_, Nat.le_trans p.len q.len, ?_⟩
  · intro b hb hk
    rw [q.frame.keep b (Nat.lt_of_lt_of_le hb p.frame.size) ?_, p.frame.keep b hb hk]
    intro id o l ho hr hl
    rcases p.fresh id l hl with e | ⟨_, e2 | ⟨id0, o0, l0, g1, g2, g3, g4⟩⟩
    · have hlt : id < h.length := by
        apply Classical.byContradiction; intro hn
        rw [s.dom id (by omega)] at e; cases e
      obtain ⟨o0, ho0, hr0⟩ := p.shrink id o hlt ho hr
      exact hk id o0 l ho0 hr0 e
    · omega
    · rw [← g4]; exact hk id0 o0 l0 g1 g2 g3
  · intro id l hl
    rcases q.fresh id l hl with e | ⟨e1, e2 | ⟨id0, o0, l0, g1, g2, g3, g4⟩⟩
    · exact p.fresh id l e
    · exact .inr ⟨by have := p.len; omega, .inl (by have := p.frame.size; omega)⟩
    · refine .inr ⟨by have := p.len; omega, ?_⟩
      rcases p.fresh id0 l0 g3 with e | ⟨_, e2 | ⟨id1, o1, l1, k1, k2, k3, k4⟩⟩
      · have hlt : id0 < h.length := by
          apply Classical.byContradiction; intro hn
          rw [s.dom id0 (by omega)] at e; cases e
        obtain ⟨o', ho', hr'⟩ := p.shrink id0 o0 hlt g1 g2
        exact .inr ⟨id0, o', l0, ho', hr', e, g4⟩
      · exact .inl (by omega)
      · exact .inr ⟨id1, o1, l1, k1, k2, k3, k4.trans g4⟩
  · intro id o2 hi ho2 hr2
    obtain ⟨o1, ho1, hr1⟩ := q.shrink id o2 (by have := p.len; omega) ho2 hr2
    exact p.shrink id o1 hi ho1 hr1

end Go.Proofs.Ytnhnelhcipafeaa.Ab
