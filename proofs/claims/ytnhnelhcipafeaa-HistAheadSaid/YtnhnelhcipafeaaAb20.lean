/- Rows: a law's statement out of its contract in the picture. -/
import Derived.Test.YtnhnelhcipafeaaAb19
import Derived.ProofKit
import Derived.OpenShut
import Derived.ShutString
import Derived.ChangeOld
import Derived.SizedLaws
import Derived.Carry
set_option linter.unusedSimpArgs false
set_option linter.unusedVariables false
namespace Go.Proofs.Ytnhnelhcipafeaa.Ab
open Go Go.RowKit Go.ChangeShapes Go.WideShapes

section
variable {H : Type} {enc : TypeId × Value → H} {P : Program}

theorem trodAll_below (hl : laidOutB P = true) {W W' : World} (hb : Below W.heap.size W W') : ∀ (ts : List TypeId) (vs : List Value) (ds : List (DataW H)) (ps : List MemPlace),
    (∀ t ∈ ts, P.readableRec t = true ∧ t < P.types.size) → DataW.TrodAll enc P W 0 (fun _ => true) true ts vs ds ps → DataW.TrodAll enc P W' 0 (fun b => decide (b < W.heap.size)) true ts vs ds ps
  | [], vs, ds, ps, _, h => by
    obtain ⟨rfl, rfl, rfl⟩ := trodAll_nil h
    exact rfl
  | t :: ts, vs, ds, ps, ht, h => by
    obtain ⟨v, vs', d, ds', p, q, rfl, rfl, rfl, hd, hr⟩ := trodAll_cons h
    refine ⟨p, q, Below.trod hl (ht t (by simp)).1 (ht t (by simp)).2 hd hb ?_, trodAll_below hl hb ts vs' ds' q (fun t h => ht t (by simp [h])) hr, rfl⟩
    obtain ⟨m, hm⟩ := hd
    exact DataW.trod_lt m _ _ _ hm
theorem law_post {fn : Func} {s : ChangeSpec} {W W' : World} {args : Array Value} {ds gs : List (DataW H)} {before : List MemPlace} {rt : TypeId}
    (hvars : s.vars = []) (hl : laidOutB P = true) (hpar : ∀ t ∈ fn.params.toList, P.readableRec t = true ∧ t < P.types.size) (hres : fn.resultTypes = #[rt]) (hrt : P.underlying rt = some .bool)
    (hs : s.fn H ds = { results := [.lit (.bool true)], args := ds }) (hW : DataW.Whole enc P fn.params.toList s.vars false W args.toList ds gs before) (hb : Below W.heap.size W W') :
    s.post enc P fn false true false false W args (.bool true) W' := by
  have hW' := hW
  obtain ⟨p, q, hA, hV, rfl, hfz, hnd⟩ := hW
  rw [hvars] at hV
  obtain ⟨rfl, rfl⟩ := trodVars_none hV
  refine ⟨ds, [], _, [], p, [], hW', ?_, ?_, ?_, hb.frame _, fun h => by cases h⟩
  · rw [List.append_nil, hs, hres]
    exact trodAll_mk1 (shut_bool hrt _)
  · rw [List.append_nil, hs]
    exact trodAll_below hl hb _ _ _ _ hpar hA
  · rw [List.append_nil, hs, hvars]
    rfl
/-- A call in a picture of what may only be read. -/
theorem Does.calls_below {G : Nat} {f : FuncId} {args : List Value} {h : Heap} {Q : Value → Heap → Prop} (d : Does G P f args h Q) {φ : Emb} {W : World} {cargs : Array Value} (s : Sim G φ h W) (hv : VRs φ args cargs.toList)
    (hro : ∀ (id : Nat) (o : AObj), h[id]? = some o → o.rw = false) : Calls P f cargs W fun e W' => ∃ v r h' φ', e = .returned v ∧ Q r h' ∧ VR φ' r v ∧ Below W.heap.size W W' :=
  (d.2 φ W cargs s hv).mono fun e W' ⟨v, r, h', φ', e1, q, k, p⟩ => ⟨v, r, h', φ', e1, q, k, p.frame.os, p.frame.tape, p.frame.output, p.frame.size,
    fun b hb => p.frame.keep b hb fun id o l ho hr _ => by rw [hro id o ho] at hr; cases hr⟩
/-- The contract that a law's row asks for. -/
theorem law_calls_post {fn : Func} {s : ChangeSpec} {W : World} {args : Array Value} {ds gs : List (DataW H)} {before : List MemPlace} {rt : TypeId} {f : FuncId}
    (hvars : s.vars = []) (hl : laidOutB P = true) (hpar : ∀ t ∈ fn.params.toList, P.readableRec t = true ∧ t < P.types.size) (hres : fn.resultTypes = #[rt]) (hrt : P.underlying rt = some .bool)
    (hs : s.fn H ds = { results := [.lit (.bool true)], args := ds }) (hW : DataW.Whole enc P fn.params.toList s.vars false W args.toList ds gs before)
    {G : Nat} {φ : Emb} {h : Heap} {aargs : List Value} (hsim : Sim G φ h W) (hv : VRs φ aargs args.toList) (hro : ∀ (id : Nat) (o : AObj), h[id]? = some o → o.rw = false) (d : Does G P f aargs h fun r _ => r = .bool true) :
    Calls P f args W fun e W' => ∃ v, e = .returned v ∧ s.post enc P fn false true false false W args v W' :=
  (d.calls_below hsim hv hro).mono fun e W' ⟨v, r, h', φ', e1, q, k, b⟩ => by
    subst q
    have := k.flat_inv rfl
    subst this
    exact ⟨_, e1, law_post hvars hl hpar hres hrt hs hW b⟩

/-! ### how arguments read -/
/-- A single value's kind. -/
inductive SK where
  | int (k : IntKind) | bool | str
def SK.is : SK → Value → Prop
  | .int k, v => ∃ n, v = .int k n ∧ (Lit.int k n).wf = true
  | .bool, v => ∃ b, v = .bool b
  | .str, v => ∃ s : ByteArray, v = .string s ∧ s.size ≤ maxLen
def Shape : List SK → List Value → Prop
  | [], [] => True
  | k :: ks, v :: vs => k.is v ∧ Shape ks vs
  | _, _ => False
theorem Shape.length : ∀ {ks : List SK} {vs : List Value}, Shape ks vs → vs.length = ks.length
  | [], [], _ => rfl
  | _ :: _, _ :: _, h => by simp [Shape.length h.2]
  | [], _ :: _, h => h.elim
  | _ :: _, [], h => h.elim
theorem Shape.cons_inv {k : SK} {ks : List SK} {cs : List Value} (h : Shape (k :: ks) cs) : ∃ v vs, cs = v :: vs ∧ k.is v ∧ Shape ks vs := by
  cases cs with
  | nil => exact h.elim
  | cons v vs => exact ⟨v, vs, rfl, h.1, h.2⟩
theorem Shape.int_inv {k : IntKind} {ks : List SK} {cs : List Value} (h : Shape (.int k :: ks) cs) : ∃ n vs, cs = .int k n :: vs ∧ (Lit.int k n).wf = true ∧ Shape ks vs := by
  obtain ⟨v, vs, rfl, ⟨n, rfl, hw⟩, hr⟩ := h.cons_inv
  exact ⟨n, vs, rfl, hw, hr⟩
theorem Shape.bool_inv {ks : List SK} {cs : List Value} (h : Shape (.bool :: ks) cs) : ∃ n vs, cs = .bool n :: vs ∧ Shape ks vs := by
  obtain ⟨v, vs, rfl, ⟨n, rfl⟩, hr⟩ := h.cons_inv
  exact ⟨n, vs, rfl, hr⟩
theorem Shape.str_inv {ks : List SK} {cs : List Value} (h : Shape (.str :: ks) cs) : ∃ n vs, cs = .string n :: vs ∧ n.size ≤ maxLen ∧ Shape ks vs := by
  obtain ⟨v, vs, rfl, ⟨n, rfl, hw⟩, hr⟩ := h.cons_inv
  exact ⟨n, vs, rfl, hw, hr⟩
theorem Shape.nil_inv {cs : List Value} (h : Shape [] cs) : cs = [] := by
  cases cs with
  | nil => rfl
  | cons v vs => exact h.elim
theorem isStruct_of {t : TypeId} (h : (match P.underlying t with | some (.struct _) => true | _ => false) = true) : ∃ fs, P.underlying t = some (.struct fs) := by
  split at h
  · exact ⟨_, by assumption⟩
  · cases h
theorem Shape.append : ∀ {ks ks' : List SK} {vs vs' : List Value}, Shape ks vs → Shape ks' vs' → Shape (ks ++ ks') (vs ++ vs')
  | [], _, [], _, _, h => h
  | _ :: _, _, _ :: _, _, h, k => ⟨h.1, Shape.append h.2 k⟩
  | [], _, _ :: _, _, h, _ => h.elim
  | _ :: _, _, [], _, h, _ => h.elim
mutual
/-- Of a type without memory: the kinds of its cells. -/
def flatKinds (P : Program) : Nat → TypeId → Option (List SK)
  | 0, _ => none
  | d + 1, t => match P.underlying t with
    | some .bool => some [.bool]
    | some (.int k) => some [.int k]
    | some .string => some [.str]
    | some (.struct fs) => match flatFields P d 0 fs.toList with
      | some ks => if ks.length = P.cellsOf t then some ks else none
      | none => none
    | _ => none
def flatFields (P : Program) : Nat → Nat → List Field → Option (List SK)
  | _, _, [] => some []
  | 0, _, _ :: _ => none
  | d + 1, o, f :: fs => match flatKinds P d f.type with
    | some ks => if f.offset = o ∧ P.cellsOf f.type = ks.length then (flatFields P d (o + ks.length) fs).map (ks ++ ·) else none
    | none => none
end
section
variable {w : World} {base : Nat} {spare : Nat → Bool} {held : Bool}
theorem flat_shape : ∀ (d : Nat), (∀ (t : TypeId) (ks : List SK) (fuel : Nat) (cs : List Value) (x : DataW H × List MemPlace), flatKinds P d t = some ks → DataW.trod enc P w base spare held fuel t cs = some x → Shape ks cs) ∧
    (∀ (o : Nat) (fs : List Field) (ks : List SK) (fuel : Nat) (cs : List Value), flatFields P d o fs = some ks → (∀ f ∈ fs, ∃ x, DataW.trod enc P w base spare held fuel f.type ((cs.drop f.offset).take (P.cellsOf f.type)) = some x) → o + ks.length ≤ cs.length → Shape ks ((cs.drop o).take ks.length)) := by
  intro d
  induction d using Nat.strongRecOn with
  | _ d ih =>
    refine ⟨?_, ?_⟩
    · intro t ks fuel cs x hk hx
      cases d with
      | zero => simp [flatKinds] at hk
      | succ d =>
        simp only [flatKinds] at hk
        split at hk
        · rename_i hu; cases hk
          obtain ⟨b, rfl, -⟩ := DataW.trod_bool hu hx
          exact ⟨⟨b, rfl⟩, trivial⟩
        · rename_i k hu; cases hk
          obtain ⟨n, rfl, -, hw⟩ := DataW.trod_int hu hx
          exact ⟨⟨n, rfl, hw⟩, trivial⟩
        · rename_i hu; cases hk
          obtain ⟨s, rfl, -, hw⟩ := DataW.trod_string hu hx
          exact ⟨⟨s, rfl, hw⟩, trivial⟩
        · rename_i fs hu
          split at hk
          case h_2 => cases hk
          rename_i ks' hf
          split at hk
          case isFalse => cases hk
          rename_i hlen
          cases hk
          obtain ⟨xs, n, rfl, -, hcs, hxs, hall⟩ := DataW.trod_struct hu hx
          have := (ih d (by omega)).2 0 fs.toList ks n cs hf (fun f hfm => by
            obtain ⟨i, hi⟩ := List.getElem?_of_mem hfm
            rw [Array.getElem?_toList] at hi
            have hlt := (Array.getElem?_eq_some_iff.1 hi).1
            exact ⟨xs[i]'(by omega), by rw [hall i f hi]; exact List.getElem?_eq_getElem _⟩) (by omega)
          rw [List.drop_zero, List.take_of_length_le (by omega)] at this
          exact this
        · cases hk
    · intro o fs ks fuel cs hk hall hlen
      cases fs with
      | nil =>
        have : ks = [] := by cases d <;> (simp [flatFields] at hk; exact hk)
        subst this
        simp [Shape]
      | cons f fs =>
        cases d with
        | zero => simp [flatFields] at hk
        | succ d =>
          simp only [flatFields] at hk
          split at hk
          case h_2 => cases hk
          rename_i k1 h1
          split at hk
          case isFalse => cases hk
          rename_i ho
          obtain ⟨rfl, hc⟩ := ho
          obtain ⟨k2, h2, rfl⟩ := Option.map_eq_some_iff.1 hk
          obtain ⟨x, hx⟩ := hall f (by simp)
          have a := (ih d (by omega)).1 _ _ _ _ _ h1 hx
          have b := (ih d (by omega)).2 _ _ _ fuel cs h2 (fun g hg => hall g (by simp [hg])) (by rw [List.length_append] at hlen; omega)
          rw [hc] at a
          have := a.append b
          rw [List.length_append]
          rw [show (cs.drop f.offset).take (k1.length + k2.length) = (cs.drop f.offset).take k1.length ++ (cs.drop (f.offset + k1.length)).take k2.length by rw [List.take_add, List.drop_drop]]
          exact this

theorem okWide_agg {t : TypeId} {fs : Array Field} {r : Reach} {b0 : Nat} {v : Value} (ht : P.underlying t = some (.struct fs)) (h : Value.okWide P w r b0 t v) : ∃ xs : Array Value, v = .agg xs := by
  simp only [Value.okWide, ht] at h
  obtain ⟨cs, h1, h2, _⟩ := h
  exact ⟨cs, h1⟩
/-- A struct without memory. -/
theorem open_flat {t : TypeId} {fs : Array Field} {ks : List SK} {d : Nat} {r : Reach} {b0 : Nat} {v : Value} {x : DataW H} {ps : List MemPlace} (ht : P.underlying t = some (.struct fs)) (hk : flatKinds P d t = some ks) (hval : Value.okWide P w r b0 t v)
    (hd : DataW.Trod enc P w base spare held t v x ps) : ∃ cs : List Value, v = .agg cs.toArray ∧ Shape ks cs := by
  obtain ⟨xs, rfl⟩ := okWide_agg ht hval
  obtain ⟨fuel, hf⟩ := hd
  exact ⟨xs.toList, by simp, (flat_shape d).1 _ _ _ _ _ hk hf⟩
theorem shape_slice {r : Reach} {b0 : Nat} {t e : TypeId} {a : Addr} {len cap : Nat} (ht : P.underlying t = some (.slice e)) (h : Value.okWide P w r b0 t (.slice (some a) len cap)) : a.spot = none ∧ ∃ C T fr, w.heap[a.block]? = some (.cells C T fr) := by
  simp only [Value.okWide, ht, Cell.okWide, Cell.ok] at h
  obtain ⟨-, -, -, hs, row, cells, h1, -⟩ := h
  refine ⟨hs, ?_⟩
  unfold World.shape? at h1
  split at h1
  · rename_i C T fr hh; exact ⟨C, T, fr, hh⟩
  · cases h1
/-- A slice of what has no memory: its elements' cells. -/
theorem open_flats {t e : TypeId} {ks : List SK} {d : Nat} {r : Reach} {b0 : Nat} {v : Value} {x : DataW H} {ps : List MemPlace} (ht : P.underlying t = some (.slice e)) (hk : flatKinds P d e = some ks) (hn : P.cellsOf e = ks.length) (hval : Value.okWide P w r b0 t v)
    (hd : DataW.Trod enc P w base spare held t v x ps) : v = .slice none 0 0 ∨ ∃ (b o cap : Nat) (L : List (List Value)) (C : Array Value) (T : TypeId) (fr : Nat × Nat), v = .slice (some ⟨b, o, none⟩) L.length cap ∧ L.length ≤ cap ∧ (∀ c ∈ L, Shape ks c) ∧ w.heap[b]? = some (.cells C T fr) ∧
      ∀ (j : Nat) (v : Value), L.flatten[j]? = some v → C[o + j]? = some v := by
  obtain ⟨a, len, cap, rfl⟩ := okWide_slice ht hval
  obtain ⟨fuel, hf⟩ := hd
  rcases DataW.trod_slice ht hf with ⟨h0, -⟩ | ⟨a', len', cap', elems, rest, n, -, h0, -, hb, hle, hmax, hel, hat, -, -⟩
  · left; simpa [Value.cells] using h0
  right
  simp only [Value.cells, List.cons.injEq, Value.slice.injEq, and_true] at h0
  obtain ⟨rfl, rfl, rfl⟩ := h0
  obtain ⟨hsp, C, T, fr, hC⟩ := shape_slice ht hval
  obtain ⟨b, o, sp⟩ := a'
  simp only at hsp hC
  subst hsp
  have each : ∀ i, i < len → ∃ c, Shape ks c ∧ ∀ j, j < ks.length → C[o + i * ks.length + j]? = c[j]? := by
    intro i hi
    have h1 := hat i hi
    rw [List.getElem?_eq_getElem (by omega), hn] at h1
    obtain ⟨c, hc, hx⟩ := Option.bind_eq_some_iff.1 h1
    obtain ⟨-, hlen, hcell⟩ := World.cells?_some hc
    refine ⟨c, (flat_shape d).1 _ _ _ _ _ hk hx, fun j hj => ?_⟩
    have := hcell j hj
    rw [add_plain, add_plain] at this
    rw [← this]
    simp [World.cell?, hC]
  obtain ⟨L, hL, hall⟩ : ∃ L : List (List Value), L.length = len ∧ ∀ i c, L[i]? = some c → Shape ks c ∧ ∀ j, j < ks.length → C[o + i * ks.length + j]? = c[j]? := by
    clear hat hel hval hf hmax hle
    induction len with
    | zero => exact ⟨[], rfl, by simp⟩
    | succ m ih =>
      obtain ⟨L, hL, hall⟩ := ih (fun i hi => each i (by omega))
      obtain ⟨c, hc⟩ := each m (by omega)
      refine ⟨L ++ [c], by simp [hL], fun i c' hi => ?_⟩
      by_cases hlt : i < L.length
      · rw [List.getElem?_append_left hlt] at hi; exact hall i c' hi
      · rw [List.getElem?_append_right (by omega)] at hi
        have h0 : i - L.length = 0 := by
          apply Classical.byContradiction; intro h0
          rw [List.getElem?_eq_none (by simp; omega)] at hi; cases hi
        rw [h0] at hi; cases hi
        have : i = m := by omega
        subst this; exact hc
  subst hL
  refine ⟨b, o, cap, L, C, T, fr, rfl, hle, fun c hc => ?_, hC, ?_⟩
  · obtain ⟨i, hi⟩ := List.getElem?_of_mem hc
    exact (hall i c hi).1
  · have key : ∀ (L : List (List Value)) (o : Nat), (∀ i c, L[i]? = some c → Shape ks c ∧ ∀ j, j < ks.length → C[o + i * ks.length + j]? = c[j]?) → ∀ (j : Nat) (v : Value), L.flatten[j]? = some v → C[o + j]? = some v := by
      intro L
      induction L with
      | nil => intro o _ j v h; simp at h
      | cons c r ih =>
        intro o hh j v h
        have h0 := hh 0 c rfl
        have hl := h0.1.length
        rw [List.flatten_cons] at h
        by_cases hj : j < c.length
        · rw [List.getElem?_append_left hj] at h
          have := h0.2 j (by omega)
          simp only [Nat.zero_mul, Nat.add_zero] at this
          rw [this, h]
        · rw [List.getElem?_append_right (by omega)] at h
          have := ih (o + ks.length) (fun i c' hi => by
            have := hh (i + 1) c' (by simpa using hi)
            refine ⟨this.1, fun j hj => ?_⟩
            rw [← this.2 j hj]
            congr 1
            rw [Nat.add_mul]; omega) (j - c.length) v h
          rw [← this]
          congr 1
          omega
    exact key L o hall
end
/-- A picture that has one row that came in. -/
theorem sim_row {W : World} {b o len cap : Nat} {C : Array Value} {T : TypeId} {fr : Nat × Nat} {c : List Value} (es : Nat) (hC : W.heap[b]? = some (.cells C T fr)) (hc : ∀ (j : Nat) (v : Value), c[j]? = some v → C[o + j]? = some v) (hfl : c.all flat = true) (hle : len ≤ cap) :
    ∃ φ, Sim 0 φ [.cells c es none false] W ∧ VR φ (.slice (some ⟨0, 0, none⟩) len unk) (.slice (some ⟨b, o, none⟩) len cap) := by
  refine ⟨fun i => if i = 0 then some ⟨b, o, 0, es, true⟩ else none, ⟨?_, ?_, ?_, ?_, ?_, ?_⟩, ?_⟩
  · intro id x hx
    cases id with
    | zero =>
      cases hx
      refine ⟨_, C, T, fr, rfl, rfl, rfl, hC, fun h => (by cases h), fun j v hj => ⟨v, hc j v hj, .flt _ ?_⟩⟩
      exact List.all_eq_true.1 hfl _ (List.mem_of_getElem? hj)
    | succ n => simp at hx
  · intro id id' x x' l l' hx hx' hne
    have h1 := (List.getElem?_eq_some_iff.1 hx).1
    have h2 := (List.getElem?_eq_some_iff.1 hx').1
    simp at h1 h2; omega
  · intro id l hl
    replace hl : (if id = 0 then some (⟨b, o, 0, es, true⟩ : Loc) else none) = some l := hl
    split at hl
    · cases hl; exact (Array.getElem?_eq_some_iff.1 hC).1
    · cases hl
  · intro id hid
    have : id ≠ 0 := by simp at hid; omega
    exact if_neg this
  · intro g hg; omega
  · intro id c' es' k rw hx
    cases id with
    | zero => cases hx
    | succ n => simp at hx
  · exact .slice 0 0 len unk _ cap ⟨b, o, 0, es, true⟩ rfl hle (.inr rfl) (.inr ⟨by simp, .inl rfl⟩)
theorem sim_none (W : World) : ∃ φ, Sim 0 φ [] W := by
  refine ⟨fun _ => none, ⟨fun id o h => ?_, fun id id' o o' l l' h => ?_, fun id l h => ?_, fun _ _ => rfl, fun g h => ?_, fun id c es k rw h => ?_⟩⟩
  · simp at h
  · simp at h
  · cases h
  · omega
  · simp at h
theorem Shape.flat : ∀ {ks : List SK} {cs : List Value}, Shape ks cs → cs.all Ab.flat = true
  | [], [], _ => rfl
  | k :: ks, c :: cs, h => by
    simp only [List.all_cons, Bool.and_eq_true]
    refine ⟨?_, Shape.flat h.2⟩
    have := h.1
    cases k with
    | int k => obtain ⟨n, rfl, -⟩ := this; rfl
    | bool => obtain ⟨n, rfl⟩ := this; rfl
    | str => obtain ⟨n, rfl, -⟩ := this; rfl
  | [], _ :: _, h => h.elim
  | _ :: _, [], h => h.elim
end
end Go.Proofs.Ytnhnelhcipafeaa.Ab
