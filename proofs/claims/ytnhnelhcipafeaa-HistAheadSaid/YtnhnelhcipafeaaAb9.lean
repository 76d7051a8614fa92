/- Small operations, maps, iterators. -/
import Derived.Test.YtnhnelhcipafeaaAb8
set_option linter.unusedSimpArgs false
set_option linter.unusedVariables false
namespace Go.Proofs.Ytnhnelhcipafeaa.Ab
open Go Go.RowKit

section
variable {G : Nat} {P : Program} {φ : Emb} {h : Heap} {w : World}

def aun (P : Program) (op : UnOp) (x : Value) : Option Value := if deepFlat x then prunF P (Op.unary op x) else none
theorem aun_ok {op : UnOp} {x x' v : Value} (s : Sim G φ h w) (hv : aun P op x = some v) (hx : VR φ x x') : OpOk G P (Op.unary op x') φ h w v h := by
  unfold aun at hv
  split at hv
  case isFalse => cases hv
  rename_i hd
  rw [hx.deep_inv hd]
  obtain ⟨r, d⟩ := prunF_run hv w
  exact .still s r (VR.deep_self d)

def aconv (P : Program) (src dst : TypeId) (x : Value) : Option Value :=
  match P.underlying src, P.underlying dst, x with
  | some (.int _), some (.int k), .int _ n => some (.int k (k.wrap n))
  | some .string, some .string, .string s => some (.string s)
  | _, _, _ => none
theorem aconv_ok {src dst : TypeId} {x x' v : Value} (s : Sim G φ h w) (hv : aconv P src dst x = some v) (hx : VR φ x x') : OpOk G P (convert src dst x') φ h w v h := by
  unfold aconv at hv
  split at hv
  · rename_i k0 k k1 n h1 h2
    cases hv
    have := hx.flat_inv rfl; subst this
    exact .still s (v' := .int k (k.wrap n)) (by simp [convert, Sem.run_bind, run_underlying h1, run_underlying h2, Conv.intToInt]) (.flt _ rfl)
  · rename_i s0 h1 h2
    cases hv
    have := hx.flat_inv rfl; subst this
    exact .still s (v' := .string s0) (by simp [convert, Sem.run_bind, run_underlying h1, run_underlying h2]) (.flt _ rfl)
  · cases hv

def aextract (i : Nat) (x : Value) : Option Value :=
  match x with
  | .tuple vs => vs.toList[i]?
  | _ => none
theorem aextract_ok {i : Nat} {x x' v : Value} (s : Sim G φ h w) (hv : aextract i x = some v) (hx : VR φ x x') : OpOk G P (Instr.extract x' i) φ h w v h := by
  unfold aextract at hv
  split at hv
  case h_2 => cases hv
  rename_i vs
  obtain ⟨vs', rfl, hr⟩ : ∃ vs', x' = .tuple vs' ∧ VRs φ vs.toList vs'.toList := by
    cases hx with
    | flt _ h => simp [flat] at h
    | tuple _ c h => exact ⟨c, rfl, h⟩
  obtain ⟨v', a, b⟩ := hr.get hv
  rw [Array.getElem?_toList] at a
  exact .still s (v' := v') (by simp [Instr.extract, a]) b

def amakeIface (P : Program) (t : TypeId) (x : Value) : Option Value :=
  match P.underlying t with
  | some (.interface _) => none
  | some _ => some (.iface t x)
  | none => none
theorem amakeIface_ok {t : TypeId} {x x' v : Value} (s : Sim G φ h w) (hv : amakeIface P t x = some v) (hx : VR φ x x') : OpOk G P (Instr.makeInterface t x') φ h w v h := by
  unfold amakeIface at hv
  split at hv
  · cases hv
  · rename_i d hne hd
    cases hv
    refine .still s (v' := .iface t x') ?_ (.iface _ _ _ hx)
    simp only [Instr.makeInterface, Sem.run_bind, run_underlying hd, Result.andThen_ok]; rfl
  · cases hv

theorem VRs.map_eval {α : Type} {f g : α → Value} (hfg : ∀ x, VR φ (f x) (g x)) : ∀ (l : List α), VRs φ (l.map f) (l.map g)
  | [] => .nil
  | x :: r => .cons _ _ _ _ (hfg x) (VRs.map_eval hfg r)

def aminmax (P : Program) (mx : Bool) (args : List Value) : Option Value :=
  if args.all deepFlat then prunF P (if mx then Builtin.max_ #[] 0 args.toArray else Builtin.min_ #[] 0 args.toArray) else none
theorem VRs.deep_inv : ∀ {r r' : List Value}, r.all deepFlat = true → VRs φ r r' → r' = r
  | _, _, _, .nil => rfl
  | _, _, h, .cons _ _ _ _ hx hr => by
    simp only [List.all_cons, Bool.and_eq_true] at h
    rw [hx.deep_inv h.1, VRs.deep_inv h.2 hr]
theorem aminmax_ok {mx : Bool} {args : List Value} {args' : Array Value} {v : Value} (s : Sim G φ h w) (hv : aminmax P mx args = some v) (ha : VRs φ args args'.toList) (ts : Array TypeId) (ty : TypeId) :
    OpOk G P (if mx then Builtin.max_ ts ty args' else Builtin.min_ ts ty args') φ h w v h := by
  unfold aminmax at hv
  split at hv
  case isFalse => cases hv
  rename_i hd
  have := VRs.deep_inv hd ha
  have e : args' = args.toArray := by rw [← this]
  subst e
  obtain ⟨r, d⟩ := prunF_run hv w
  refine .still s (v' := v) ?_ (VR.deep_self d)
  cases mx <;> exact r

/-! ### maps -/
theorem amakeMap_ok (s : Sim G φ h w) (t : TypeId) : OpOk G P (Instr.makeMap t none) φ h w (.map (some h.length)) (h ++ [.map [] 0]) := by
  refine ⟨.map (some w.heap.size), w.alloc (.map #[] 0), _, rfl, VR.map _ ⟨w.heap.size, 0, 0, 0, false⟩ (Emb.upd_same _ _ _), post_new s _ _ _ rfl ⟨_, #[], Emb.upd_same _ _ _, heap_alloc_new w _, trivial⟩ (fun _ _ _ _ e => by cases e)⟩

theorem findNow_rel {kd : TypeDesc} {k : Value} : ∀ (es es' : List MapEntry) (i : Nat) (r : Option (Nat × Value)), ERel φ es es' → Instr.findNow kd k es i = some r →
    ∃ r', Instr.findNow kd k es' i = some r' ∧ (r = none ∧ r' = none ∨ ∃ j v v', r = some (j, v) ∧ r' = some (j, v') ∧ VR φ v v')
  | [], [], i, r, _, h => by simp [Instr.findNow] at h; subst h; exact ⟨none, rfl, .inl ⟨rfl, rfl⟩⟩
  | [], _ :: _, _, _, hr, _ => hr.elim
  | _ :: _, [], _, _, hr, _ => hr.elim
  | e :: es, e' :: es', i, r, hr, h => by
    obtain ⟨⟨_, h1, _, h2⟩, h3⟩ := hr
    simp only [Instr.findNow] at h ⊢
    rw [← h1]
    split at h
    · cases h; exact ⟨_, rfl, .inr ⟨i, _, _, rfl, rfl, h2⟩⟩
    · exact findNow_rel es es' (i + 1) r h3 h
    · cases h
/-- A map type: its key's kind (int, string or bool), the key's and the element's type. -/
def tmap (P : Program) (t : TypeId) : Option (TypeDesc × TypeId × TypeId) :=
  match P.underlying t with
  | some (.map k e) => match P.underlying k with
    | some (.int i) => some (.int i, k, e)
    | some .string => some (.string, k, e)
    | some .bool => some (.bool, k, e)
    | _ => none
  | _ => none
theorem tmap_run {t k e : TypeId} {kd : TypeDesc} (h : tmap P t = some (kd, k, e)) : P.underlying t = some (.map k e) ∧ P.underlying k = some kd ∧ (kd = .string ∨ kd = .bool ∨ ∃ i, kd = .int i) := by
  unfold tmap at h
  split at h
  · rename_i k' e' hu
    split at h
    · rename_i i hk; cases h; exact ⟨hu, hk, .inr (.inr ⟨_, rfl⟩)⟩
    · rename_i hk; cases h; exact ⟨hu, hk, .inl rfl⟩
    · rename_i hk; cases h; exact ⟨hu, hk, .inr (.inl rfl)⟩
    · cases h
  · cases h
theorem run_checkKey {k : TypeId} {kd : TypeDesc} (hk : P.underlying k = some kd) (hkd : kd = .string ∨ kd = .bool ∨ ∃ i, kd = .int i) (b : Bool) (v : Value) (w : World) : (Instr.checkKey b 10000 k v).run P w = .ok () w := by
  show (Instr.checkKey b (9999 + 1) k v).run P w = _
  unfold Instr.checkKey
  rcases hkd with rfl | rfl | ⟨i, rfl⟩ <;> (simp only [Sem.run_bind, run_underlying hk, Result.andThen_ok]; rfl)
def tzv (P : Program) (t : TypeId) : Option Value :=
  match P.info? t with
  | some i => match i.zero with
    | some z => if deepFlat z then some z else none
    | none => none
  | none => none
theorem tzv_run {t : TypeId} {z : Value} (h : tzv P t = some z) (w : World) : (zeroValue t).run P w = .ok z w ∧ deepFlat z = true := by
  unfold tzv at h
  split at h
  case h_2 => cases h
  rename_i i hi
  split at h
  case h_2 => cases h
  rename_i v hv
  split at h
  case isFalse => cases h
  cases h
  exact ⟨by simp [zeroValue, typeInfo, Sem.run_bind, hi, hv], by assumption⟩
theorem run_getMap {r : Nat} {es : Array MapEntry} {ck : Nat} (hh : w.heap[r]? = some (.map es ck)) : (getObj r).run P w = .ok (.map es ck) w := by
  simp [getObj, Sem.run, hh]
theorem run_setMap {r : Nat} {es es2 : Array MapEntry} {ck ck2 : Nat} (hh : w.heap[r]? = some (.map es ck)) : (setObj r (.map es2 ck2)).run P w = .ok () { w with heap := w.heap.setIfInBounds r (.map es2 ck2) } := by
  simp [setObj, Sem.run, hh]

def amapEs (x : Value) (h : Heap) : Option (List MapEntry) :=
  match x with
  | .map none => some []
  | .map (some id) => match h[id]? with
    | some (.map es _) => some es
    | _ => none
  | _ => none
theorem amapEs_ok (s : Sim G φ h w) {x x' : Value} {es : List MapEntry} (hv : amapEs x h = some es) (hx : VR φ x x') :
    ∃ es' : Array MapEntry, ERel φ es es'.toList ∧ ((x' = .map none ∧ es' = #[]) ∨ ∃ r ck, x' = .map (some r) ∧ w.heap[r]? = some (.map es' ck)) := by
  unfold amapEs at hv
  split at hv
  · cases hv
    have := hx.flat_inv rfl; subst this
    exact ⟨#[], trivial, .inl ⟨rfl, rfl⟩⟩
  · rename_i id
    split at hv
    case h_2 => cases hv
    rename_i es2 ck he
    cases hv
    obtain ⟨l, hl, rfl⟩ := hx.map_inv
    obtain ⟨l2, es', e2, g1, g2⟩ := s.objs id _ he
    rw [hl] at e2; cases e2
    exact ⟨es', g2, .inr ⟨l.b, ck, rfl, g1⟩⟩
  · cases hv
def alookup (k : TypeDesc × TypeId × TypeId) (z : Value) (x i : Value) (ok : Bool) (h : Heap) : Option Value :=
  match amapEs x h with
  | none => none
  | some es =>
    if flat i then
      match Instr.findNow k.1 i es 0 with
      | some r =>
        let (v, b) := match r with
          | some (_, v) => (v, true)
          | none => (z, false)
        some (if ok then .tuple #[v, .bool b] else v)
      | none => none
    else none
theorem alookup_ok {t : TypeId} {k : TypeDesc × TypeId × TypeId} {z : Value} (ht : tmap P t = some k) (hz : tzv P k.2.2 = some z) (s : Sim G φ h w) {x x' i i' v : Value} {ok : Bool} (hv : alookup k z x i ok h = some v) (hx : VR φ x x') (hi : VR φ i i') :
    OpOk G P (Instr.lookup t x' i' ok) φ h w v h := by
  obtain ⟨kd, kt, et⟩ := k
  obtain ⟨u1, u2, u3⟩ := tmap_run ht
  obtain ⟨z1, z2⟩ := tzv_run hz w
  unfold alookup at hv
  split at hv
  · cases hv
  rename_i es hes
  split at hv
  case isFalse => cases hv
  rename_i hfi
  have := hi.flat_inv hfi; subst this
  split at hv
  case h_2 => cases hv
  rename_i r hr
  obtain ⟨es', q1, q2⟩ := amapEs_ok s hes hx
  obtain ⟨r', p1, p2⟩ := findNow_rel es es'.toList 0 r q1 hr
  have hfk : (Instr.findKey kt i' es'.toList).run P w = .ok r' w := by
    simp only [Instr.findKey, Sem.run_bind, run_underlying u2, Result.andThen_ok, p1]; rfl
  rcases p2 with ⟨rfl, rfl⟩ | ⟨j, v1, v1', rfl, rfl, hvr⟩
  · cases hv
    refine .still s (v' := if ok then .tuple #[z, .bool false] else z) ?_ ?_
    · rcases q2 with ⟨rfl, rfl⟩ | ⟨r, ck, rfl, hh⟩
      · have hfk : (Instr.findKey kt i' []).run P w = _ := hfk
        simp only [Instr.lookup, Sem.run_bind, run_underlying u1, Result.andThen_ok, Sem.run_pure, run_checkKey u2 u3, hfk, z1]
      · simp only [Instr.lookup, Sem.run_bind, run_underlying u1, Result.andThen_ok, Sem.run_pure, run_getMap hh, run_checkKey u2 u3, hfk, z1]
    · cases ok
      · exact VR.deep_self z2
      · exact .tuple _ _ (.cons _ _ _ _ (VR.deep_self z2) (.cons _ _ _ _ (.flt _ rfl) .nil))
  · cases hv
    refine .still s (v' := if ok then .tuple #[v1', .bool true] else v1') ?_ ?_
    · rcases q2 with ⟨rfl, rfl⟩ | ⟨r, ck, rfl, hh⟩
      · have hfk : (Instr.findKey kt i' []).run P w = _ := hfk
        simp only [Instr.lookup, Sem.run_bind, run_underlying u1, Result.andThen_ok, Sem.run_pure, run_checkKey u2 u3, hfk]
      · simp only [Instr.lookup, Sem.run_bind, run_underlying u1, Result.andThen_ok, Sem.run_pure, run_getMap hh, run_checkKey u2 u3, hfk]
    · cases ok
      · exact hvr
      · exact .tuple _ _ (.cons _ _ _ _ hvr (.cons _ _ _ _ (.flt _ rfl) .nil))

/-- A map's entries anew. -/
theorem post_setMap (s : Sim G φ h w) {id : Nat} {l : Loc} {es : List MapEntry} {ck : Nat} (e : h[id]? = some (.map es ck)) (hl : φ id = some l) (es2 : List MapEntry) (ck2 : Nat) (es2' : Array MapEntry) (hr : ERel φ es2 es2'.toList) :
    Post G φ h w φ (h.set id (.map es2 ck2)) { w with heap := w.heap.setIfInBounds l.b (.map es2' ck2) } := by
  obtain ⟨l0, es', e0, g1, g2⟩ := s.objs id _ e
  rw [hl] at e0; cases e0
  have hlt : id < h.length := s.lt_len hl
  have hbl := s.lt _ _ hl
  have hne : ∀ b, b ≠ l.b → (w.heap.setIfInBounds l.b (.map es2' ck2))[b]? = w.heap[b]? := fun b hb => by
    rw [Array.getElem?_setIfInBounds, if_neg (fun q => hb q.symm)]
  have hold : ∀ i (x : AObj), (h.set id (.map es2 ck2))[i]? = some x → (i = id ∧ x = .map es2 ck2) ∨ (i ≠ id ∧ h[i]? = some x) := by
    intro i x hi
    by_cases hid : i = id
    · subst hid; rw [List.getElem?_set_self hlt] at hi; cases hi; exact .inl ⟨rfl, rfl⟩
    · rw [List.getElem?_set_ne (fun q => hid q.symm)] at hi; exact .inr ⟨hid, hi⟩
  refine ⟨Ext.refl _, ⟨?_, ?_, ?_, ?_, s.glob, ?_⟩, ⟨rfl, rfl, rfl, by simp, ?_⟩, fun _ _ e => .inl e, by simp, ?_⟩
  · intro i x hi
    rcases hold i x hi with ⟨rfl, rfl⟩ | ⟨hid, hi⟩
    · refine ⟨l, es2', hl, ?_, hr⟩
      simp [Array.getElem?_setIfInBounds, hbl]
    · have hr0 := s.objs i x hi
      have hmono := fun hb => (hr0.mono (w' := { w with heap := w.heap.setIfInBounds l.b (.map es2' ck2) }) (Ext.refl _) hb)
      cases x with
      | dead => exact hr0
      | cells c es3 k rw =>
        refine hmono fun l2 e2 => hne _ fun hb => ?_
        obtain ⟨l3, C, t, fr, e3, _, _, m3, _⟩ := hr0
        rw [e2] at e3; cases e3
        rw [hb, g1] at m3; cases m3
      | map =>
        refine hmono fun l2 e2 => hne _ fun hb => ?_
        exact s.sep id i _ _ l l2 e hi (fun q => hid q.symm) hl e2 hb.symm
      | iter m2 s2 sn2 st2 =>
        refine hmono fun l2 e2 => hne _ fun hb => ?_
        obtain ⟨l3, m', e3, _, m3, _⟩ := hr0
        rw [e2] at e3; cases e3
        rw [hb, g1] at m3; cases m3
  · intro i i' x x' li li' hi hi' hne' el el' hb
    rcases hold i x hi with ⟨rfl, rfl⟩ | ⟨hid, hi2⟩ <;> rcases hold i' x' hi' with ⟨rfl, rfl⟩ | ⟨hid', hi2'⟩
    · exact absurd rfl hne'
    · have := s.sep _ _ _ _ _ _ e hi2' hne' el el' hb
      cases x' <;> exact this
    · have := s.sep _ _ _ _ _ _ hi2 e hne' el el' hb
      cases x with
      | cells c es3 k rw => cases rw <;> exact this
      | _ => exact this
    · exact s.sep _ _ _ _ _ _ hi2 hi2' hne' el el' hb
  · intro i l' e; simpa using s.lt _ _ e
  · intro i hi; exact s.dom i (by simpa using hi)
  · intro i c2 es3 k2 rw2 ei
    rcases hold i _ ei with ⟨rfl, ei2⟩ | ⟨hid, ei2⟩
    · cases ei2
    · exact s.wf i _ _ _ _ ei2
  · intro b hb hk
    exact hne b (fun q => hk id _ l e rfl hl q.symm)
  · intro i o' hi e2 r
    rcases hold i o' e2 with ⟨rfl, rfl⟩ | ⟨hid, hi2⟩
    · exact ⟨_, e, rfl⟩
    · exact ⟨o', hi2, r⟩

theorem bytes_beq (a b : ByteArray) : (a == b) = true ↔ a = b := by
  rw [beq_toListBytes, beq_iff_eq, ByteArray.toList_eq, ByteArray.toList_eq]
  constructor
  · intro h
    have : a.data = b.data := Array.toList_inj.1 h
    cases a; cases b; simp_all
  · rintro rfl; rfl
theorem sameNow_bits {kd : TypeDesc} {a b : Value} (hkd : kd = .string ∨ kd = .bool ∨ ∃ i, kd = .int i) (h : Instr.sameNow kd a b = some true) : a = b ∧ Instr.sameBits 10000 b a = true := by
  rcases hkd with rfl | rfl | ⟨i, rfl⟩
  · cases a <;> cases b <;> first | (simp [Instr.sameNow] at h; done) | skip
    simp only [Instr.sameNow, Option.some.injEq, bytes_beq] at h
    subst h
    exact ⟨rfl, by unfold Instr.sameBits; exact (bytes_beq _ _).2 rfl⟩
  · cases a <;> cases b <;> first | (simp [Instr.sameNow] at h; done) | skip
    simp only [Instr.sameNow, Option.some.injEq, beq_iff_eq] at h
    subst h
    exact ⟨rfl, by unfold Instr.sameBits; simp⟩
  · cases a <;> cases b <;> first | (simp [Instr.sameNow] at h; done) | skip
    simp only [Instr.sameNow] at h
    split at h
    · rename_i hk
      subst hk
      simp only [Option.some.injEq, beq_iff_eq] at h
      subst h
      exact ⟨rfl, by unfold Instr.sameBits; simp⟩
    · cases h
theorem findNow_at {kd : TypeDesc} {k : Value} (hkd : kd = .string ∨ kd = .bool ∨ ∃ i, kd = .int i) : ∀ (es : List MapEntry) (i j : Nat) (v : Value), Instr.findNow kd k es i = some (some (j, v)) → ∃ e, i ≤ j ∧ es[j - i]? = some e ∧ e.key = k ∧ e.val = v ∧ Instr.sameBits 10000 e.key k = true
  | [], i, j, v, h => by simp [Instr.findNow] at h
  | e :: es, i, j, v, h => by
    simp only [Instr.findNow] at h
    split at h
    · rename_i hs
      cases h
      obtain ⟨a, b⟩ := sameNow_bits hkd hs
      exact ⟨e, Nat.le_refl _, by simp, a.symm, rfl, b⟩
    · obtain ⟨e2, a, b, c⟩ := findNow_at hkd es (i + 1) j v h
      exact ⟨e2, by omega, by rw [show j - i = (j - (i + 1)) + 1 from by omega]; simpa using b, c⟩
    · cases h
theorem ERel.modify : ∀ {es es' : List MapEntry} (j : Nat) (k v v' : Value), flat k = true → VR φ v v' → ERel φ es es' → ERel φ (es.modify j fun e => { e with key := k, val := v }) (es'.modify j fun e => { e with key := k, val := v' })
  | [], [], _, _, _, _, _, _, h => by simp; exact h
  | [], _ :: _, _, _, _, _, _, _, h => h.elim
  | _ :: _, [], _, _, _, _, _, _, h => h.elim
  | e :: es, e' :: es', 0, k, v, v', hk, hv, h => ⟨⟨hk, rfl, h.1.2.2.1, hv⟩, h.2⟩
  | e :: es, e' :: es', j + 1, k, v, v', hk, hv, h => ⟨h.1, ERel.modify j k v v' hk hv h.2⟩
theorem ERel.snoc : ∀ {es es' : List MapEntry} (b : Nat) (k v v' : Value), flat k = true → VR φ v v' → ERel φ es es' → ERel φ (es ++ [⟨k, v, b⟩]) (es' ++ [⟨k, v', b⟩])
  | [], [], _, _, _, _, hk, hv, _ => ⟨⟨hk, rfl, rfl, hv⟩, trivial⟩
  | [], _ :: _, _, _, _, _, _, _, h => h.elim
  | _ :: _, [], _, _, _, _, _, _, h => h.elim
  | e :: es, e' :: es', b, k, v, v', hk, hv, h => ⟨h.1, ERel.snoc b k v v' hk hv h.2⟩
theorem ERel.erase : ∀ {es es' : List MapEntry} (j : Nat), ERel φ es es' → ERel φ (es.eraseIdx j) (es'.eraseIdx j)
  | [], [], _, h => by simp; exact h
  | [], _ :: _, _, h => h.elim
  | _ :: _, [], _, h => h.elim
  | e :: es, e' :: es', 0, h => h.2
  | e :: es, e' :: es', j + 1, h => ⟨h.1, ERel.erase j h.2⟩
theorem ERel.length : ∀ {es es' : List MapEntry}, ERel φ es es' → es.length = es'.length
  | [], [], _ => rfl
  | [], _ :: _, h => h.elim
  | _ :: _, [], h => h.elim
  | _ :: _, _ :: _, h => by simp [ERel.length h.2]

def amapSet (kd : TypeDesc) (m k v : Value) (h : Heap) : Option Heap :=
  match m with
  | .map (some id) =>
    match h[id]? with
    | some (.map es ck) =>
      if flat k then
        match Instr.findNow kd k es 0 with
        | some (some (j, _)) => some (h.set id (.map (es.modify j fun e => { e with key := k, val := v }) ck))
        | some none => some (h.set id (.map (es ++ [⟨k, v, ck⟩]) (ck + 1)))
        | none => none
      else none
    | _ => none
  | _ => none
theorem amapSet_ok {t : TypeId} {kd : TypeDesc} {kt et : TypeId} (ht : tmap P t = some (kd, kt, et)) (s : Sim G φ h w) {m m' k k' v v' : Value} {h' : Heap} (hv : amapSet kd m k v h = some h') (hm : VR φ m m') (hk : VR φ k k') (hvv : VR φ v v') :
    ∃ w', (Instr.mapUpdate t m' k' v').run P w = .ok () w' ∧ Post G φ h w φ h' w' := by
  obtain ⟨u1, u2, u3⟩ := tmap_run ht
  unfold amapSet at hv
  split at hv
  case h_2 => cases hv
  rename_i id
  split at hv
  case h_2 => cases hv
  rename_i es ck he
  split at hv
  case isFalse => cases hv
  rename_i hfk
  have := hk.flat_inv hfk; subst this
  obtain ⟨l, hl, rfl⟩ := hm.map_inv
  obtain ⟨l2, es', e2, g1, g2⟩ := s.objs id _ he
  rw [hl] at e2; cases e2
  split at hv
  · rename_i j v0 hf
    cases hv
    obtain ⟨r', p1, p2⟩ := findNow_rel es es'.toList 0 _ g2 hf
    rcases p2 with ⟨e, _⟩ | ⟨j2, v1, v1', e, rfl, -⟩
    · cases e
    cases e
    obtain ⟨e0, _, hj, a1, a2, a3⟩ := findNow_at u3 es'.toList 0 _ _ p1
    have hfk2 : (Instr.findKey kt k' es'.toList).run P w = .ok (some (j, v1')) w := by
      simp only [Instr.findKey, Sem.run_bind, run_underlying u2, Result.andThen_ok, p1]; rfl
    have hj' : es'[j]? = some e0 := by rw [← Array.getElem?_toList]; simpa using hj
    refine ⟨_, ?_, post_setMap s he hl _ ck (es'.modify j fun e => { e with key := k', val := v' }) (by rw [Array.toList_modify]; exact ERel.modify _ _ _ _ hfk hvv g2)⟩
    simp only [Instr.mapUpdate, Sem.run_bind, run_underlying u1, Result.andThen_ok, run_getMap g1, run_checkKey u2 u3, hfk2, hj', Option.map_some, Option.getD_some, Instr.keyThatStays, a3, if_true, Sem.run_pure, run_setMap g1]
  · rename_i hf
    cases hv
    obtain ⟨r', p1, p2⟩ := findNow_rel es es'.toList 0 _ g2 hf
    rcases p2 with ⟨_, rfl⟩ | ⟨j, v1, v1', e, _, -⟩
    case inr => cases e
    have hfk2 : (Instr.findKey kt k' es'.toList).run P w = .ok none w := by
      simp only [Instr.findKey, Sem.run_bind, run_underlying u2, Result.andThen_ok, p1]; rfl
    refine ⟨_, ?_, post_setMap s he hl _ (ck + 1) (es'.push ⟨k', v', ck⟩) (by rw [Array.toList_push]; exact ERel.snoc _ _ _ _ hfk hvv g2)⟩
    simp only [Instr.mapUpdate, Sem.run_bind, run_underlying u1, Result.andThen_ok, run_getMap g1, run_checkKey u2 u3, hfk2, run_setMap g1]
  · cases hv

def adelete (kd : TypeDesc) (m k : Value) (h : Heap) : Option Heap :=
  match m with
  | .map none => some h
  | .map (some id) =>
    match h[id]? with
    | some (.map es ck) =>
      if flat k then
        match Instr.findNow kd k es 0 with
        | some (some (j, _)) => some (h.set id (.map (es.eraseIdx j) ck))
        | some none => some h
        | none => none
      else none
    | _ => none
  | _ => none
theorem set_same {α : Type} : ∀ (l : List α) (i : Nat) (x : α), l[i]? = some x → l.set i x = l
  | [], _, _, h => by simp at h
  | _ :: _, 0, _, h => by simp at h; simp [h]
  | _ :: r, i + 1, x, h => by simp at h; simp [set_same r i x h]
theorem adelete_ok {t : TypeId} {kd : TypeDesc} {kt et : TypeId} (ht : tmap P t = some (kd, kt, et)) {ts : Array TypeId} {ty : TypeId} {args : Array Value} (h0 : ts[0]? = some t) (s : Sim G φ h w) {m m' k k' : Value} {h' : Heap} (hv : adelete kd m k h = some h') (a0 : args[0]? = some m') (a1 : args[1]? = some k') (hm : VR φ m m') (hk : VR φ k k') :
    OpOk G P (Builtin.delete_ ts ty args) φ h w (.tuple #[]) h' := by
  obtain ⟨u1, u2, u3⟩ := tmap_run ht
  unfold adelete at hv
  split at hv
  · cases hv
    have := hm.flat_inv rfl; subst this
    refine .still s (v' := .tuple #[]) ?_ (.tuple _ _ .nil)
    simp only [Builtin.delete_, h0, a0, a1, Sem.run_bind, run_underlying u1, Result.andThen_ok, run_checkKey u2 u3]; rfl
  · rename_i id
    split at hv
    case h_2 => cases hv
    rename_i es ck he
    split at hv
    case isFalse => cases hv
    rename_i hfk
    have := hk.flat_inv hfk; subst this
    obtain ⟨l, hl, rfl⟩ := hm.map_inv
    obtain ⟨l2, es', e2, g1, g2⟩ := s.objs id _ he
    rw [hl] at e2; cases e2
    split at hv
    · rename_i j v0 hf
      cases hv
      obtain ⟨r', p1, p2⟩ := findNow_rel es es'.toList 0 _ g2 hf
      rcases p2 with ⟨e, _⟩ | ⟨j2, v1, v1', e, rfl, -⟩
      · cases e
      cases e
      have hfk2 : (Instr.findKey kt k' es'.toList).run P w = .ok (some (j, v1')) w := by
        simp only [Instr.findKey, Sem.run_bind, run_underlying u2, Result.andThen_ok, p1]; rfl
      refine ⟨.tuple #[], _, φ, ?_, .tuple _ _ .nil, post_setMap s he hl _ ck (es'.eraseIdxIfInBounds j) (by rw [Array.toList_eraseIdxIfInBounds]; exact ERel.erase _ g2)⟩
      simp only [Builtin.delete_, h0, a0, a1, Sem.run_bind, run_underlying u1, Result.andThen_ok, run_getMap g1, run_checkKey u2 u3, hfk2, run_setMap g1]; rfl
    · rename_i hf
      cases hv
      obtain ⟨r', p1, p2⟩ := findNow_rel es es'.toList 0 _ g2 hf
      rcases p2 with ⟨_, rfl⟩ | ⟨j, v1, v1', e, _, -⟩
      case inr => cases e
      have hfk2 : (Instr.findKey kt k' es'.toList).run P w = .ok none w := by
        simp only [Instr.findKey, Sem.run_bind, run_underlying u2, Result.andThen_ok, p1]; rfl
      have pp := post_setMap s he hl es ck es' g2
      rw [set_same _ _ _ he] at pp
      refine ⟨.tuple #[], _, φ, ?_, .tuple _ _ .nil, pp⟩
      simp only [Builtin.delete_, h0, a0, a1, Sem.run_bind, run_underlying u1, Result.andThen_ok, run_getMap g1, run_checkKey u2 u3, hfk2, run_setMap g1]; rfl
    · cases hv
  · cases hv

def alenMap (P : Program) (t : TypeId) (x : Value) (h : Heap) : Option Value :=
  match P.underlying t with
  | some (.map _ _) => (amapEs x h).map fun es => .int .i64 es.length
  | _ => none
theorem alenMap_ok {t : TypeId} {ts : Array TypeId} {ty : TypeId} (ht : ts[0]? = some t) (s : Sim G φ h w) {x v : Value} {args : Array Value} (hv : alenMap P t x h = some v) {x' : Value} (ha : args[0]? = some x') (hx : VR φ x x') : OpOk G P (Builtin.len_ ts ty args) φ h w v h := by
  unfold alenMap at hv
  split at hv
  case h_2 => cases hv
  rename_i hu
  simp only [Option.map_eq_some_iff] at hv
  obtain ⟨es, hes, rfl⟩ := hv
  obtain ⟨es', q1, q2⟩ := amapEs_ok s hes hx
  have hl := q1.length
  rcases q2 with ⟨rfl, rfl⟩ | ⟨r, ck, rfl, hh⟩
  · refine .still s (v' := .int .i64 0) (by simp [Builtin.len_, ht, ha, Sem.run_bind, run_underlying hu, goInt]) ?_
    simp at hl
    rw [hl]; exact .flt _ rfl
  · refine .still s (v' := .int .i64 es'.size) (by simp [Builtin.len_, ht, ha, Sem.run_bind, run_underlying hu, goInt, run_getMap hh]) ?_
    rw [hl]; exact .flt _ rfl

/-! ### iterators over maps, where but one thing may come next -/
def arange (P : Program) (t : TypeId) (x : Value) (h : Heap) : Option (Value × Heap) :=
  match P.underlying t, x with
  | some (.map _ _), .map none => some (.pointer (some ⟨h.length, 0, none⟩), h ++ [.iter none 0 [] 0])
  | some (.map _ _), .map (some id) => match h[id]? with
    | some (.map _ ck) => some (.pointer (some ⟨h.length, 0, none⟩), h ++ [.iter (some id) ck [] ck])
    | _ => none
  | _, _ => none
theorem arange_ok {t : TypeId} (s : Sim G φ h w) {x x' v : Value} {h' : Heap} (hv : arange P t x h = some (v, h')) (hx : VR φ x x') : OpOk G P (Instr.range t x') φ h w v h' := by
  unfold arange at hv
  split at hv
  · rename_i k e hu
    cases hv
    have := hx.flat_inv rfl; subst this
    refine ⟨.pointer (some ⟨w.heap.size, 0, none⟩), w.alloc (.mapIter none 0 #[] 0), _, ?_, ?_, post_new s _ _ ⟨w.heap.size, 0, 0, 0, false⟩ rfl ⟨_, none, Emb.upd_same _ _ _, rfl, heap_alloc_new w _, .inl ⟨rfl, rfl⟩⟩ (fun _ _ _ _ e => by cases e)⟩
    · simp only [Instr.range, Sem.run_bind, run_underlying hu, Result.andThen_ok]; rfl
    · exact VR.ptr _ 0 _ (Emb.upd_same _ _ _)
  · rename_i k e id hu
    split at hv
    case h_2 => cases hv
    rename_i es ck he
    cases hv
    obtain ⟨l, hl, rfl⟩ := hx.map_inv
    obtain ⟨l2, es', e2, g1, g2⟩ := s.objs id _ he
    rw [hl] at e2; cases e2
    refine ⟨.pointer (some ⟨w.heap.size, 0, none⟩), w.alloc (.mapIter (some l.b) ck #[] ck), _, ?_, ?_, post_new s _ _ ⟨w.heap.size, 0, 0, 0, false⟩ rfl ⟨_, some l.b, Emb.upd_same _ _ _, rfl, heap_alloc_new w _, .inr ⟨id, l, rfl, Ext.upd _ (s.dom _ (Nat.le_refl _)) _ _ hl, rfl⟩⟩ (fun _ _ _ _ e => by cases e)⟩
    · simp only [Instr.range, Sem.run_bind, run_underlying hu, Result.andThen_ok, run_getMap g1]; rfl
    · exact VR.ptr _ 0 _ (Emb.upd_same _ _ _)
  · cases hv

theorem ERel.filter (p : Nat → Bool) : ∀ {es es' : List MapEntry}, ERel φ es es' → ERel φ (es.filter fun e => p e.born) (es'.filter fun e => p e.born)
  | [], [], _ => trivial
  | [], _ :: _, h => h.elim
  | _ :: _, [], h => h.elim
  | e :: es, e' :: es', h => by
    have hb := h.1.2.2.1
    simp only [List.filter_cons]
    rw [← hb]
    split
    · exact ⟨h.1, ERel.filter p h.2⟩
    · exact ERel.filter p h.2
theorem ERel.all (p : Nat → Bool) : ∀ {es es' : List MapEntry}, ERel φ es es' → es.all (fun e => p e.born) = es'.all (fun e => p e.born)
  | [], [], _ => rfl
  | [], _ :: _, h => h.elim
  | _ :: _, [], h => h.elim
  | e :: es, e' :: es', h => by simp only [List.all_cons, ERel.all p h.2, h.1.2.2.1]
theorem ERel.find (p : Nat → Bool) : ∀ {es es' : List MapEntry} {e : MapEntry}, ERel φ es es' → es.find? (fun e => p e.born) = some e → ∃ e', es'.find? (fun e => p e.born) = some e' ∧ flat e.key = true ∧ e.key = e'.key ∧ e.born = e'.born ∧ VR φ e.val e'.val
  | [], [], _, _, h => by simp at h
  | [], _ :: _, _, h, _ => h.elim
  | _ :: _, [], _, h, _ => h.elim
  | x :: es, x' :: es', e, h, hf => by
    have hb := h.1.2.2.1
    simp only [List.find?_cons] at hf ⊢
    rw [← hb]
    split at hf
    · cases hf; exact ⟨x', rfl, h.1⟩
    · exact ERel.find p h.2 hf

def anext (it : Value) (h : Heap) : Option (Value × Heap) :=
  match it with
  | .pointer (some ⟨id, 0, none⟩) =>
    match h[id]? with
    | some (.iter none _ _ _) => some (.tuple #[.bool false], h)
    | some (.iter (some mid) since seen last) =>
      match h[mid]? with
      | some (.map es ck) =>
        if !seen.isEmpty && !es.isEmpty && es.all (fun e => decide (e.born ≥ last)) then none else
        match (es.filter fun e => !seen.contains e.born).filter (fun e => decide (e.born < since)), (es.filter fun e => !seen.contains e.born).filter (fun e => decide (e.born ≥ since)) with
        | [e], [] => some (.tuple #[.bool true, e.key, e.val], h.set id (.iter (some mid) since (seen ++ [e.born]) ck))
        | [], [] => some (.tuple #[.bool false], h)
        | _, _ => none
      | _ => none
    | _ => none
  | _ => none
theorem post_setIter (s : Sim G φ h w) {id : Nat} {l : Loc} {m : Nat} {since st st2 : Nat} {seen seen2 : List Nat} (e : h[id]? = some (.iter (some m) since seen st)) (hl : φ id = some l) {lm : Loc} (hm : φ m = some lm) :
    Post G φ h w φ (h.set id (.iter (some m) since seen2 st2)) { w with heap := w.heap.setIfInBounds l.b (.mapIter (some lm.b) since seen2.toArray st2) } := by
  obtain ⟨l0, m0, e0, g0, g1, g2⟩ := s.objs id _ e
  rw [hl] at e0; cases e0
  have hlt : id < h.length := s.lt_len hl
  have hbl := s.lt _ _ hl
  have hne : ∀ b, b ≠ l.b → (w.heap.setIfInBounds l.b (.mapIter (some lm.b) since seen2.toArray st2))[b]? = w.heap[b]? := fun b hb => by
    rw [Array.getElem?_setIfInBounds, if_neg (fun q => hb q.symm)]
  have hold : ∀ i (x : AObj), (h.set id (.iter (some m) since seen2 st2))[i]? = some x → (i = id ∧ x = .iter (some m) since seen2 st2) ∨ (i ≠ id ∧ h[i]? = some x) := by
    intro i x hi
    by_cases hid : i = id
    · subst hid; rw [List.getElem?_set_self hlt] at hi; cases hi; exact .inl ⟨rfl, rfl⟩
    · rw [List.getElem?_set_ne (fun q => hid q.symm)] at hi; exact .inr ⟨hid, hi⟩
  refine ⟨Ext.refl _, ⟨?_, ?_, ?_, ?_, s.glob, ?_⟩, ⟨rfl, rfl, rfl, by simp, ?_⟩, fun _ _ e => .inl e, by simp, ?_⟩
  · intro i x hi
    rcases hold i x hi with ⟨rfl, rfl⟩ | ⟨hid, hi⟩
    · refine ⟨l, some lm.b, hl, g0, ?_, .inr ⟨m, lm, rfl, hm, rfl⟩⟩
      simp [Array.getElem?_setIfInBounds, hbl]
    · have hr0 := s.objs i x hi
      have hmono := fun hb => (hr0.mono (w' := { w with heap := w.heap.setIfInBounds l.b (.mapIter (some lm.b) since seen2.toArray st2) }) (Ext.refl _) hb)
      cases x with
      | dead => exact hr0
      | cells c es3 k rw =>
        refine hmono fun l2 e2 => hne _ fun hb => ?_
        obtain ⟨l3, C, t, fr, e3, _, _, m3, _⟩ := hr0
        rw [e2] at e3; cases e3
        rw [hb, g1] at m3; cases m3
      | map =>
        refine hmono fun l2 e2 => hne _ fun hb => ?_
        obtain ⟨l3, es', e3, m3, _⟩ := hr0
        rw [e2] at e3; cases e3
        rw [hb, g1] at m3; cases m3
      | iter m2 s2 sn2 st2 =>
        refine hmono fun l2 e2 => hne _ fun hb => ?_
        exact s.sep id i _ _ l l2 e hi (fun q => hid q.symm) hl e2 hb.symm
  · intro i i' x x' li li' hi hi' hne' el el' hb
    rcases hold i x hi with ⟨rfl, rfl⟩ | ⟨hid, hi2⟩ <;> rcases hold i' x' hi' with ⟨rfl, rfl⟩ | ⟨hid', hi2'⟩
    · exact absurd rfl hne'
    · have := s.sep _ _ _ _ _ _ e hi2' hne' el el' hb
      cases x' <;> exact this
    · have := s.sep _ _ _ _ _ _ hi2 e hne' el el' hb
      cases x with
      | cells c es3 k rw => cases rw <;> exact this
      | _ => exact this
    · exact s.sep _ _ _ _ _ _ hi2 hi2' hne' el el' hb
  · intro i l' e; simpa using s.lt _ _ e
  · intro i hi; exact s.dom i (by simpa using hi)
  · intro i c2 es3 k2 rw2 ei
    rcases hold i _ ei with ⟨rfl, ei2⟩ | ⟨hid, ei2⟩
    · cases ei2
    · exact s.wf i _ _ _ _ ei2
  · intro b hb hk
    exact hne b (fun q => hk id _ l e rfl hl q.symm)
  · intro i o' hi e2 r
    rcases hold i o' e2 with ⟨rfl, rfl⟩ | ⟨hid, hi2⟩
    · exact ⟨_, e, rfl⟩
    · exact ⟨o', hi2, r⟩
theorem run_getObj {r : Nat} {o : Obj} (hh : w.heap[r]? = some o) (hn : ∀ c t f, o ≠ .cells c t f) : (getObj r).run P w = .ok o w := by
  cases o <;> first | exact absurd rfl (hn _ _ _) | simp [getObj, Sem.run, hh]
theorem run_setObj {r : Nat} {o o2 : Obj} (hh : w.heap[r]? = some o) (hn : ∀ c t f, o ≠ .cells c t f) : (setObj r o2).run P w = .ok () { w with heap := w.heap.setIfInBounds r o2 } := by
  cases o <;> first | exact absurd rfl (hn _ _ _) | simp [setObj, Sem.run, hh]
theorem filter_toList (es : Array MapEntry) (p : MapEntry → Bool) : (es.filter p).toList = es.toList.filter p := by simp
theorem anext_ok (s : Sim G φ h w) {it it' v : Value} {h' : Heap} (hv : anext it h = some (v, h')) (hi : VR φ it it') (ty : TypeId) : OpOk G P (Instr.next it' false ty) φ h w v h' := by
  unfold anext at hv
  split at hv
  case h_2 => cases hv
  rename_i id
  obtain ⟨l, hl, rfl⟩ := hi.ptr_inv
  split at hv
  · rename_i since seen st he
    cases hv
    obtain ⟨l2, m', e2, g0, g1, g2⟩ := s.objs id _ he
    rw [hl] at e2; cases e2
    rcases g2 with ⟨_, rfl⟩ | ⟨i, li, q, _⟩
    case inr => cases q
    refine .still s (v' := .tuple #[.bool false]) ?_ (.tuple _ _ (.cons _ _ _ _ (.flt _ rfl) .nil))
    rw [g0]
    simp only [Instr.next, Sem.run_bind, run_getObj g1 (fun _ _ _ q => by cases q), Result.andThen_ok]; rfl
  · rename_i mid since seen last he
    obtain ⟨l2, m', e2, g0, g1, g2⟩ := s.objs id _ he
    rw [hl] at e2; cases e2
    rcases g2 with ⟨q, _⟩ | ⟨i, lm, q, hlm, rfl⟩
    · cases q
    cases q
    split at hv
    case h_2 => cases hv
    rename_i es ck hm
    obtain ⟨l3, es', e3, k1, k2⟩ := s.objs _ _ hm
    rw [hlm] at e3; cases e3
    split at hv
    case isTrue => cases hv
    rename_i hall
    have hemp : es.isEmpty = es'.isEmpty := by
      have := k2.length
      cases es <;> cases es' with | mk l => cases l <;> simp_all
    have hall' : (!seen.toArray.isEmpty && !es'.isEmpty && es'.all (fun e => decide (e.born ≥ last))) = false := by
      rw [k2.all (fun b => decide (b ≥ last)), hemp] at hall
      rw [← Array.all_toList]
      simpa using hall
    have hf1 := (k2.filter (fun b => !seen.contains b)).filter (fun b => decide (b < since))
    have hf2 := (k2.filter (fun b => !seen.contains b)).filter (fun b => decide (b ≥ since))
    have t1 : ((es'.filter fun e => !seen.toArray.contains e.born).filter fun e => decide (e.born < since)).toList = (es'.toList.filter fun e => !seen.contains e.born).filter fun e => decide (e.born < since) := by
      simp only [filter_toList, List.contains_toArray]
    have t2 : ((es'.filter fun e => !seen.toArray.contains e.born).filter fun e => decide (e.born ≥ since)).toList = (es'.toList.filter fun e => !seen.contains e.born).filter fun e => decide (e.born ≥ since) := by
      simp only [filter_toList, List.contains_toArray]
    generalize hA : (es'.filter fun e => !seen.toArray.contains e.born).filter (fun e => decide (e.born < since)) = A at t1
    generalize hB : (es'.filter fun e => !seen.toArray.contains e.born).filter (fun e => decide (e.born ≥ since)) = B at t2
    rw [← t1] at hf1
    rw [← t2] at hf2
    split at hv
    · rename_i e hq1 hq2
      cases hv
      rw [hq1] at hf1
      rw [hq2] at hf2
      have hBn : B = #[] := by
        cases hBl : B.toList with
        | nil => simpa using hBl
        | cons x r => rw [hBl] at hf2; exact hf2.elim
      obtain ⟨e', hA1, hrel⟩ : ∃ e', A = #[e'] ∧ (flat e.key = true ∧ e.key = e'.key ∧ e.born = e'.born ∧ VR φ e.val e'.val) := by
        cases hAl : A.toList with
        | nil => rw [hAl] at hf1; exact hf1.elim
        | cons x r =>
          rw [hAl] at hf1
          cases r with
          | nil => exact ⟨x, by rw [← Array.toList_inj]; simpa using hAl, hf1.1⟩
          | cons y r => exact hf1.2.elim
      subst hBn hA1
      refine ⟨.tuple #[.bool true, e'.key, e'.val], _, φ, ?_, ?_, post_setIter s he hl hlm⟩
      · rw [g0]
        simp only [Instr.next, Sem.run_bind, run_getObj g1 (fun _ _ _ q => by cases q), Result.andThen_ok, run_getObj k1 (fun _ _ _ q => by cases q), hall', Bool.false_eq_true, if_false, hA, hB]
        simp [choose, Sem.run, Question.forced, run_setObj g1 (fun _ _ _ q => by cases q), Sem.run_bind, hrel.2.2.1]
      · exact .tuple _ _ (.cons _ _ _ _ (.flt _ rfl) (.cons _ _ _ _ (by rw [← hrel.2.1]; exact .flt _ hrel.1) (.cons _ _ _ _ hrel.2.2.2 .nil)))
    · rename_i hq1 hq2
      cases hv
      rw [hq1] at hf1
      rw [hq2] at hf2
      have hBn : B = #[] := by
        cases hBl : B.toList with
        | nil => simpa using hBl
        | cons x r => rw [hBl] at hf2; exact hf2.elim
      have hAn : A = #[] := by
        cases hAl : A.toList with
        | nil => simpa using hAl
        | cons x r => rw [hAl] at hf1; exact hf1.elim
      subst hBn hAn
      refine .still s (v' := .tuple #[.bool false]) ?_ (.tuple _ _ (.cons _ _ _ _ (.flt _ rfl) .nil))
      rw [g0]
      simp only [Instr.next, Sem.run_bind, run_getObj g1 (fun _ _ _ q => by cases q), Result.andThen_ok, run_getObj k1 (fun _ _ _ q => by cases q), hall', Bool.false_eq_true, if_false, hA, hB]
      simp [choose, Sem.run, Question.forced]
    · cases hv
  · cases hv

def aentry (it : Value) (h : Heap) : Option Value :=
  match it with
  | .pointer (some ⟨id, 0, none⟩) =>
    match h[id]? with
    | some (.iter (some mid) _ seen st) =>
      match h[mid]?, seen.getLast? with
      | some (.map es ck), some stamp => if ck = st then (es.find? fun e => e.born == stamp).map fun e => .tuple #[e.key, e.val] else none
      | _, _ => none
    | _ => none
  | _ => none
theorem aentry_ok (s : Sim G φ h w) {it it' v : Value} (hv : aentry it h = some v) (hi : VR φ it it') : OpOk G P (Instr.entry it') φ h w v h := by
  unfold aentry at hv
  split at hv
  case h_2 => cases hv
  rename_i id
  obtain ⟨l, hl, rfl⟩ := hi.ptr_inv
  split at hv
  case h_2 => cases hv
  rename_i mid since seen st he
  obtain ⟨l2, m', e2, g0, g1, g2⟩ := s.objs id _ he
  rw [hl] at e2; cases e2
  rcases g2 with ⟨q, _⟩ | ⟨i, lm, q, hlm, rfl⟩
  · cases q
  cases q
  split at hv
  case h_2 => cases hv
  rename_i es ck stamp hm hsn
  split at hv
  case isFalse => cases hv
  rename_i hck
  subst hck
  simp only [Option.map_eq_some_iff] at hv
  obtain ⟨e, hf, rfl⟩ := hv
  obtain ⟨l3, es', e3, k1, k2⟩ := s.objs _ _ hm
  rw [hlm] at e3; cases e3
  obtain ⟨e', f1, f2, f3, f4, f5⟩ := k2.find (fun b => b == stamp) hf
  refine .still s (v' := .tuple #[e'.key, e'.val]) ?_ (.tuple _ _ (.cons _ _ _ _ (by rw [← f3]; exact .flt _ f2) (.cons _ _ _ _ f5 .nil)))
  rw [g0]
  have hb : seen.toArray.back? = some stamp := by rw [List.back?_toArray]; exact hsn
  have f1' : es'.find? (fun e => e.born == stamp) = some e' := by rw [← Array.find?_toList]; exact f1
  simp only [Instr.entry, Sem.run_bind, run_getObj g1 (fun _ _ _ q => by cases q), Result.andThen_ok, hb, run_getObj k1 (fun _ _ _ q => by cases q), f1', bne_self_eq_false, Bool.false_eq_true, if_false]
  rfl

end
end Go.Proofs.Ytnhnelhcipafeaa.Ab
