/- Heaps and slices of structs in a walk. -/
import Derived.Test.YtnhnelhcipafeaaAb17
set_option linter.unusedSimpArgs false
set_option linter.unusedVariables false
namespace Go.Proofs.Ytnhnelhcipafeaa.Ab
open Go Go.RowKit

section
variable {α : Type}
theorem get_app (h t : Heap) (k : Nat) : (h ++ t)[h.length + k]? = t[k]? := by
  rw [List.getElem?_append_right (by omega)]; congr 1; omega
theorem get_app0 (h t : Heap) : (h ++ t)[h.length]? = t[0]? := get_app h t 0
theorem get_old {h : Heap} {i : Nat} {o : AObj} (e : h[i]? = some o) (t : Heap) : (h ++ t)[i]? = some o := by
  rw [List.getElem?_append_left (List.getElem?_eq_some_iff.1 e).1]; exact e
theorem set_app (h t : Heap) (k : Nat) (o : AObj) : (h ++ t).set (h.length + k) o = h ++ t.set k o := by
  rw [List.set_append, if_neg (by omega)]; congr 2; omega
theorem set_app0 (h t : Heap) (o : AObj) : (h ++ t).set h.length o = h ++ t.set 0 o := set_app h t 0 o

theorem flatMap_len {n : Nat} {f : α → List Value} (hf : ∀ x, (f x).length = n) (L : List α) : (L.flatMap f).length = L.length * n := by
  induction L with
  | nil => simp
  | cons x r ih => rw [List.flatMap_cons, List.length_append, ih, hf, List.length_cons, Nat.add_mul, Nat.one_mul, Nat.add_comm]
theorem flatMap_take {n : Nat} {f : α → List Value} (hf : ∀ x, (f x).length = n) : ∀ (L : List α) (i : Nat), (L.flatMap f).take (i * n) = (L.take i).flatMap f
  | [], i => by simp
  | x :: r, 0 => by simp
  | x :: r, i + 1 => by
    rw [List.flatMap_cons, Nat.add_mul, Nat.one_mul, Nat.add_comm, ← hf x, List.take_length_add_append, hf x, flatMap_take hf r i, List.take_succ_cons, List.flatMap_cons]
theorem flatMap_drop {n : Nat} {f : α → List Value} (hf : ∀ x, (f x).length = n) : ∀ (L : List α) (i : Nat), (L.flatMap f).drop (i * n) = (L.drop i).flatMap f
  | [], i => by simp
  | x :: r, 0 => by simp
  | x :: r, i + 1 => by
    rw [List.flatMap_cons, Nat.add_mul, Nat.one_mul, Nat.add_comm, ← hf x, List.drop_length_add_append, hf x, flatMap_drop hf r i, List.drop_succ_cons]
theorem flatMap_at {n : Nat} {f : α → List Value} (hf : ∀ x, (f x).length = n) (L : List α) (i : Nat) (hi : i < L.length) : (L.flatMap f).drop (i * n) = f L[i] ++ (L.drop (i + 1)).flatMap f := by
  rw [flatMap_drop hf, List.drop_eq_getElem_cons hi, List.flatMap_cons]
theorem flatMap_cell {n : Nat} {f : α → List Value} (hf : ∀ x, (f x).length = n) (L : List α) (i k : Nat) (hi : i < L.length) (hk : k < n) : (L.flatMap f)[i * n + k]? = (f L[i])[k]? := by
  rw [← List.getElem?_drop, flatMap_at hf L i hi, List.getElem?_append_left (by rw [hf]; exact hk)]
theorem flatMap_part {n : Nat} {f : α → List Value} (hf : ∀ x, (f x).length = n) (L : List α) (i k m : Nat) (hi : i < L.length) (hk : k + m ≤ n) : ((L.flatMap f).drop (i * n + k)).take m = ((f L[i]).drop k).take m := by
  rw [← List.drop_drop, flatMap_at hf L i hi, List.drop_append_of_le_length (by rw [hf]; omega), List.take_append_of_le_length (by rw [List.length_drop, hf]; omega)]
theorem flatMap_fits {n : Nat} {f : α → List Value} (hf : ∀ x, (f x).length = n) (L : List α) (i k m : Nat) (hi : i < L.length) (hk : k + m ≤ n) : i * n + k + m ≤ (L.flatMap f).length := by
  rw [flatMap_len hf]
  have : (i + 1) * n ≤ L.length * n := Nat.mul_le_mul_right _ hi
  rw [Nat.add_mul, Nat.one_mul] at this
  omega

/-- Elements of a slice of structs, read. -/
theorem aload_elem {n id : Nat} {f : α → List Value} {L : List α} {es : Nat} {cl : Option Nat} {rw : Bool} {h : Heap} (e : h[id]? = some (.cells (L.flatMap f) es cl rw)) (hf : ∀ x, (f x).length = n) (i : Nat) (hi : i < L.length) :
    aload true n (.pointer (some ⟨id, i * n, none⟩)) h = some (.agg (f L[i]).toArray) := by
  have h1 := flatMap_part hf L i 0 n hi (by omega)
  have h2 := flatMap_fits hf L i 0 n hi (by omega)
  simp only [Nat.add_zero] at h1 h2
  simp only [aload, e, if_true, h1, if_pos h2, List.drop_zero]
  rw [List.take_of_length_le (by rw [hf]; omega)]
theorem aload_field {n id k : Nat} {f : α → List Value} {L : List α} {es : Nat} {cl : Option Nat} {rw : Bool} {h : Heap} (e : h[id]? = some (.cells (L.flatMap f) es cl rw)) (hf : ∀ x, (f x).length = n) (i : Nat) (hi : i < L.length) (hk : k < n) (m : Nat) :
    aload false m (.pointer (some ⟨id, i * n + k, none⟩)) h = (f L[i])[k]? := by
  simp only [aload, e, Bool.false_eq_true, if_false]
  exact flatMap_cell hf L i k hi hk
theorem aload_part {n id k m : Nat} {f : α → List Value} {L : List α} {es : Nat} {cl : Option Nat} {rw : Bool} {h : Heap} (e : h[id]? = some (.cells (L.flatMap f) es cl rw)) (hf : ∀ x, (f x).length = n) (i : Nat) (hi : i < L.length) (hk : k + m ≤ n) :
    aload true m (.pointer (some ⟨id, i * n + k, none⟩)) h = some (.agg (((f L[i]).drop k).take m).toArray) := by
  simp only [aload, e, if_true, flatMap_part hf L i k m hi hk, if_pos (flatMap_fits hf L i k m hi hk)]
theorem aindexAddr_int {id o len c n : Nat} {g : Bool} {ik : IntKind} {i : Int} (h0 : 0 ≤ i) (h1 : i < len) : aindexAddr (none, g, n) (.slice (some ⟨id, o, none⟩) len c) (.int ik i) = some (.pointer (some ⟨id, o + i.toNat * n, none⟩)) := by
  simp only [aindexAddr, if_pos (And.intro h0 h1)]
theorem aindexAddr_nat {id len c n : Nat} {g : Bool} {ik : IntKind} {i : Nat} (h1 : i < len) : aindexAddr (none, g, n) (.slice (some ⟨id, 0, none⟩) len c) (.int ik (i : Int)) = some (.pointer (some ⟨id, i * n, none⟩)) := by
  rw [aindexAddr_int (by omega) (by omega), Int.toNat_natCast, Nat.zero_add]

/-! ### what a class's end leaves -/
theorem killAll_low {h : Heap} (hw : WF h) {q o i : Nat} (hi : i < q) : (killAll (some q) o h)[i]? = h[i]? := by
  simp only [killAll, List.getElem?_map]
  cases e : h[i]? with
  | none => rfl
  | some x =>
    simp only [Option.map_some, Option.some.injEq]
    unfold AObj.hit
    split
    · rename_i c es k' rw
      rw [if_neg]
      rintro ⟨rfl, _⟩
      have := hw _ _ _ _ _ e
      omega
    · rfl
theorem killAll_free {h : Heap} {cl : Option Nat} {o i : Nat} {c : List Value} {es : Nat} {rw : Bool} (e : h[i]? = some (.cells c es none rw)) : (killAll cl o h)[i]? = some (.cells c es none rw) := by
  cases cl <;> simp [killAll, e, AObj.hit]
theorem killAll_map {h : Heap} {cl : Option Nat} {o i : Nat} {es : List MapEntry} {ck : Nat} (e : h[i]? = some (.map es ck)) : (killAll cl o h)[i]? = some (.map es ck) := by
  cases cl <;> simp [killAll, e, AObj.hit]

/-! ### stores into objects of no class -/
def astoresO (h : Heap) (id o : Nat) (vs : List Value) : Option Heap := astores h id o vs
def astoreN (h : Heap) (id o : Nat) (vs : List Value) : Option Heap :=
  match h[id]? with
  | some (.cells c es none true) => if o + vs.length ≤ c.length ∧ vs.all okCell = true then some (h.set id (.cells (aput c o vs) es none true)) else astoresO h id o vs
  | _ => astoresO h id o vs
theorem aput_len : ∀ (vs c : List Value) (o : Nat), (aput c o vs).length = c.length
  | [], c, o => rfl
  | v :: r, c, o => by rw [aput, aput_len r, List.length_set]
theorem astores_none : ∀ (vs : List Value) (h : Heap) (id o : Nat) (c : List Value) (es : Nat), h[id]? = some (.cells c es none true) → o + vs.length ≤ c.length → vs.all okCell = true →
    astores h id o vs = some (h.set id (.cells (aput c o vs) es none true))
  | [], h, id, o, c, es, e, hl, hk => by
    obtain ⟨hi, e'⟩ := List.getElem?_eq_some_iff.1 e
    simp only [astores, aput, ← e', List.set_getElem_self]
  | v :: r, h, id, o, c, es, e, hl, hk => by
    simp only [List.all_cons, Bool.and_eq_true] at hk
    have hi := (List.getElem?_eq_some_iff.1 e).1
    simp only [List.length_cons] at hl
    have h1 : astore1 h id o v = some (h.set id (.cells (c.set o v) es none true)) := by
      simp only [astore1, e]
      rw [if_pos ⟨by omega, hk.1⟩]
      rfl
    simp only [astores, h1, Option.bind_some]
    rw [astores_none r _ id (o + 1) (c.set o v) es (by rw [List.getElem?_set]; simp [hi]) (by rw [List.length_set]; omega) hk.2, List.set_set]
    rfl
theorem astores_eqN (h : Heap) (id o : Nat) (vs : List Value) : astores h id o vs = astoreN h id o vs := by
  unfold astoreN
  split
  · rename_i c es e
    split
    · rename_i hh; exact astores_none vs h id o c es e hh.1 hh.2
    · rfl
  · rfl
def noCls : AObj → Bool
  | .cells _ _ (some _) _ => false
  | _ => true
theorem hit_noCls {x : AObj} (k o : Nat) (e : noCls x = true) : x.hit k o = x := by
  unfold AObj.hit
  split
  · simp [noCls] at e
  · rfl
theorem killed_cls {q o id j : Nat} {h : Heap} {c : List Value} {es k : Nat} {rw : Bool} (e : (killed (some q) o id h)[j]? = some (.cells c es (some k) rw)) : h[j]? = some (.cells c es (some k) rw) := by
  simp only [killed, List.getElem?_mapIdx, Option.map_eq_some_iff] at e
  obtain ⟨x, hx, e⟩ := e
  rw [hx]
  split at e
  · rw [e]
  · unfold AObj.hit at e
    split at e
    · split at e
      · cases e
      · rw [e]
    · rw [e]
/-- A store into an object of a class: what it leaves. -/
theorem astores_cls : ∀ (vs : List Value) (h : Heap) (id o q : Nat) (c : List Value) (es : Nat), h[id]? = some (.cells c es (some q) true) → o + vs.length ≤ c.length → vs.all okCell = true →
    ∃ h', astores h id o vs = some h' ∧ h'.length = h.length ∧ h'[id]? = some (.cells (aput c o vs) es (some q) true) ∧
      (∀ j x, j ≠ id → h[j]? = some x → (∀ c' es' rw, x ≠ .cells c' es' (some q) rw) → h'[j]? = some x) ∧
      (∀ (j : Nat) (c : List Value) (es k : Nat) (rw : Bool), h'[j]? = some (AObj.cells c es (some k) rw) → ∃ (c' : List Value) (es' : Nat) (rw' : Bool), h[j]? = some (AObj.cells c' es' (some k) rw')) ∧
      ∀ T : Heap, T.all noCls = true → astores (h ++ T) id o vs = some (h' ++ T)
  | [], h, id, o, q, c, es, e, hl, hk => ⟨h, rfl, rfl, e, fun j x _ k _ => k, fun j c es k rw e => ⟨c, es, rw, e⟩, fun T _ => rfl⟩
  | v :: r, h, id, o, q, c, es, e, hl, hk => by
    simp only [List.all_cons, Bool.and_eq_true] at hk
    have hi := (List.getElem?_eq_some_iff.1 e).1
    simp only [List.length_cons] at hl
    have h1 : astore1 h id o v = some (killed (some q) o id (h.set id (.cells (c.set o v) es (some q) true))) := by
      simp only [astore1, e]
      rw [if_pos ⟨by omega, hk.1⟩]
    have hid : (killed (some q) o id (h.set id (.cells (c.set o v) es (some q) true)))[id]? = some (.cells (c.set o v) es (some q) true) := by
      simp [killed, hi]
    obtain ⟨h', a1, a2, a3, a4, a5, a6⟩ := astores_cls r _ id (o + 1) q (c.set o v) es hid (by rw [List.length_set]; omega) hk.2
    refine ⟨h', by simp only [astores, h1, Option.bind_some, a1], by rw [a2, killed_length, List.length_set], a3, fun j x hj k hn => a4 j x hj ?_ hn, fun j c' es' k rw ej => ?_, fun T hT => ?_⟩
    · have : (h.set id (.cells (c.set o v) es (some q) true))[j]? = some x := by rw [List.getElem?_set_ne (Ne.symm hj)]; exact k
      simp only [killed, List.getElem?_mapIdx, this, Option.map_some, Option.some.injEq]
      split
      · rfl
      · unfold AObj.hit
        split
        · rename_i c' es' k' rw
          rw [if_neg]
          rintro ⟨rfl, _⟩
          exact hn _ _ _ rfl
        · rfl
    · obtain ⟨c2, es2, rw2, e2⟩ := a5 j c' es' k rw ej
      have e3 := killed_cls e2
      by_cases hj : j = id
      · subst hj
        rw [List.getElem?_set] at e3
        simp [hi] at e3
        exact ⟨_, _, _, by rw [e, ← e3.2.2.1]⟩
      · rw [List.getElem?_set_ne (Ne.symm hj)] at e3
        exact ⟨_, _, _, e3⟩
    · have h2 : astore1 (h ++ T) id o v = some (killed (some q) o id (h.set id (.cells (c.set o v) es (some q) true)) ++ T) := by
        simp only [astore1, get_old e T]
        rw [if_pos ⟨by omega, hk.1⟩]
        have : (h ++ T).set id (.cells (c.set o v) es (some q) true) = h.set id (.cells (c.set o v) es (some q) true) ++ T := by rw [List.set_append, if_pos hi]
        rw [this]
        simp only [killed, List.mapIdx_append, Option.some.injEq, List.append_cancel_left_eq]
        apply List.ext_getElem?
        intro j
        simp only [List.getElem?_mapIdx]
        cases ej : T[j]? with
        | none => rfl
        | some x =>
          have hx : noCls x = true := List.all_eq_true.1 hT x (List.mem_of_getElem? ej)
          simp only [Option.map_some, hit_noCls _ _ hx, ite_self]
      simp only [astores, h2, Option.bind_some]
      exact a6 T hT
theorem WF.low {h : Heap} (hw : WF h) {i q : Nat} {x : AObj} (hi : i < q) (e : h[i]? = some x) : ∀ c es rw, x ≠ .cells c es (some q) rw := by
  rintro c es rw rfl
  have := hw _ _ _ _ _ e
  omega
theorem aput_at : ∀ (vs a b d : List Value), b.length = vs.length → aput (a ++ b ++ d) a.length vs = a ++ vs ++ d
  | [], a, b, d, hb => by
    have : b = [] := List.eq_nil_of_length_eq_zero hb
    simp [aput, this]
  | v :: r, a, [], d, hb => by simp at hb
  | v :: r, a, x :: b, d, hb => by
    have e1 : (a ++ (x :: b) ++ d).set a.length v = (a ++ [v]) ++ b ++ d := by
      rw [List.append_assoc, List.set_append, if_neg (by omega)]
      simp
    have := aput_at r (a ++ [v]) b d (by simpa using hb)
    rw [aput, e1, show a.length + 1 = (a ++ [v]).length by simp, this]
    simp
theorem aput_all (c vs : List Value) (hl : c.length = vs.length) : aput c 0 vs = vs := by
  have := aput_at vs [] c [] hl
  simpa using this
/-- A part of an element, written. -/
theorem aput_elem {n : Nat} {f : α → List Value} (hf : ∀ x, (f x).length = n) (L : List α) (i k : Nat) (vs : List Value) (y : α) (hi : i < L.length) (hk : k + vs.length ≤ n) (hy : f y = aput (f L[i]) k vs) : aput (L.flatMap f) (i * n + k) vs = (L.set i y).flatMap f := by
  have hL : L = L.take i ++ L[i] :: L.drop (i + 1) := by rw [← List.drop_eq_getElem_cons hi, List.take_append_drop]
  have hl1 : ((L.take i).flatMap f).length = i * n := by rw [flatMap_len hf, List.length_take, Nat.min_eq_left (by omega)]
  have hx : f L[i] = (f L[i]).take k ++ ((f L[i]).drop k).take vs.length ++ (f L[i]).drop (k + vs.length) := by
    rw [List.append_assoc, ← List.drop_drop, List.take_append_drop, List.take_append_drop]
  have hlk : ((f L[i]).take k).length = k := by rw [List.length_take, hf, Nat.min_eq_left (by omega)]
  have hlv : (((f L[i]).drop k).take vs.length).length = vs.length := by rw [List.length_take, List.length_drop, hf, Nat.min_eq_left (by omega)]
  have e1 : L.flatMap f = ((L.take i).flatMap f ++ (f L[i]).take k) ++ ((f L[i]).drop k).take vs.length ++ ((f L[i]).drop (k + vs.length) ++ (L.drop (i + 1)).flatMap f) := by
    conv => lhs; rw [hL]
    rw [List.flatMap_append, List.flatMap_cons]
    conv => lhs; rw [hx]
    simp only [List.append_assoc]
  have e2 : aput (f L[i]) k vs = (f L[i]).take k ++ vs ++ (f L[i]).drop (k + vs.length) := by
    have := aput_at vs ((f L[i]).take k) (((f L[i]).drop k).take vs.length) ((f L[i]).drop (k + vs.length)) hlv
    rw [← hx, hlk] at this
    exact this
  have e3 := aput_at vs ((L.take i).flatMap f ++ (f L[i]).take k) (((f L[i]).drop k).take vs.length) ((f L[i]).drop (k + vs.length) ++ (L.drop (i + 1)).flatMap f) hlv
  rw [← e1, List.length_append, hl1, hlk] at e3
  rw [e3, List.set_eq_take_append_cons_drop, if_pos hi, List.flatMap_append, List.flatMap_cons, hy, e2]
  simp only [List.append_assoc]
/-! ### a heap put for another of the same length -/
theorem reb_get {h h' : Heap} (hl : h'.length = h.length) (t : Heap) (k : Nat) : (h' ++ t)[h.length + k]? = t[k]? := by rw [← hl]; exact get_app h' t k
theorem reb_get0 {h h' : Heap} (hl : h'.length = h.length) (t : Heap) : (h' ++ t)[h.length]? = t[0]? := reb_get hl t 0
theorem reb_set {h h' : Heap} (hl : h'.length = h.length) (t : Heap) (k : Nat) (o : AObj) : (h' ++ t).set (h.length + k) o = h' ++ t.set k o := by rw [← hl]; exact set_app h' t k o
theorem reb_set0 {h h' : Heap} (hl : h'.length = h.length) (t : Heap) (o : AObj) : (h' ++ t).set h.length o = h' ++ t.set 0 o := reb_set hl t 0 o
theorem set_low {h : Heap} {i : Nat} (hi : i < h.length) (t : Heap) (o : AObj) : (h ++ t).set i o = h.set i o ++ t := by rw [List.set_append, if_pos hi]
theorem killAll_noCls {t : Heap} (q : Option Nat) (o : Nat) (e : t.all noCls = true) : killAll q o t = t := by
  cases q with
  | none => rfl
  | some k =>
    simp only [killAll]
    conv => rhs; rw [← List.map_id t]
    exact List.map_congr_left fun x hx => hit_noCls k o (List.all_eq_true.1 e x hx)
theorem killAll_append (q : Option Nat) (o : Nat) (h t : Heap) : killAll q o (h ++ t) = killAll q o h ++ killAll q o t := by cases q <;> simp [killAll]
/-- What an event leaves alone: what lies low, what has no class. -/
structure Keeps (B : Nat) (h h' : Heap) : Prop where
  len : h'.length = h.length
  low : ∀ i : Nat, i < B → h'[i]? = h[i]?
  free : ∀ (i : Nat) (x : AObj), h[i]? = some x → noCls x = true → h'[i]? = some x
theorem Keeps.refl (B : Nat) (h : Heap) : Keeps B h h := ⟨rfl, fun _ _ => rfl, fun _ _ e _ => e⟩
theorem Keeps.trans {B : Nat} {h h' h'' : Heap} (a : Keeps B h h') (b : Keeps B h' h'') : Keeps B h h'' :=
  ⟨b.len.trans a.len, fun i hi => (b.low i hi).trans (a.low i hi), fun i x e n => b.free i x (a.free i x e n) n⟩
theorem Keeps.kill {B : Nat} {h : Heap} (hw : WF h) {q : Nat} (hq : B ≤ q) (o : Nat) : Keeps B h (killAll (some q) o h) := by
  refine ⟨killAll_length _ _ _, fun i hi => killAll_low hw (by omega), fun i x e n => ?_⟩
  simp only [killAll, List.getElem?_map, e, Option.map_some, hit_noCls q o n]
/-- Rows that grow. -/
def RowAt {α : Type} (f : α → List Value) (n : Nat) (h : Heap) (B : Nat) (v : Value) (L : List α) : Prop :=
  (L = [] ∧ v = .slice none 0 0) ∨ ∃ id q, B ≤ id ∧ B ≤ q ∧ h[id]? = some (.cells (L.flatMap f) n (some q) true) ∧ v = .slice (some ⟨id, 0, none⟩) L.length unk
theorem RowAt.push {f : α → List Value} {n b : Nat} {z : List Value} {h T : Heap} {B k : Nat} {v : Value} {L : List α} (r : RowAt f n h B v L) (hf : ∀ x, (f x).length = n) (hw : WF h) (hB : B ≤ h.length) (hb : b ≤ 65536) (hL : L.length < 1073741824)
    (hT : T.all noCls = true) (y : α) {es : Nat} (hy : T[k]? = some (.cells (f y) es none true)) (hok : (f y).all okCell = true) :
    ∃ h' q, Keeps B h h' ∧ B ≤ q ∧ aappend (n, b, z) v (.slice (some ⟨h.length + k, 0, none⟩) 1 1) (h ++ T) = some (.slice (some ⟨h.length + T.length, 0, none⟩) (L.length + 1) unk, h' ++ (T ++ [.cells ((L ++ [y]).flatMap f) n (some q) true])) := by
  have hsrc : asource n (.slice (some ⟨h.length + k, 0, none⟩) 1 1) (h ++ T) = some (f y, 1) := by
    simp only [asource, get_app, hy, Nat.zero_add, Nat.one_mul, List.drop_zero]
    rw [if_pos (by rw [hf]; exact Nat.le_refl _), List.take_of_length_le (by rw [hf]; exact Nat.le_refl _)]
  have hfl : (L ++ [y]).flatMap f = L.flatMap f ++ f y := by simp
  rcases r with ⟨rfl, rfl⟩ | ⟨id, q, h1, h2, h3, rfl⟩
  · refine ⟨h, h.length + T.length, Keeps.refl _ _, by omega, ?_⟩
    simp only [aappend, hsrc, if_pos hb]
    simp
  · have e1 : (h ++ T)[id]? = some (.cells (L.flatMap f) n (some q) true) := get_old h3 T
    refine ⟨killAll (some q) (L.length * n) h, q, Keeps.kill hw h2 _, h2, ?_⟩
    simp only [aappend, hsrc, if_pos hb, Nat.one_ne_zero, if_false, e1, Nat.zero_add]
    rw [if_pos (by omega), if_pos (by rw [flatMap_len hf]; exact Nat.le_refl _), if_pos trivial, if_pos ⟨trivial, trivial, trivial, hok⟩, killAll_append, killAll_noCls _ _ hT, hfl, List.take_of_length_le (by rw [flatMap_len hf]; exact Nat.le_refl _)]
    simp
/-- A part of an element of a row, written. -/
theorem row_store {f : α → List Value} {n : Nat} {h : Heap} {B ido q k : Nat} {L : List α} {vs : List Value} {y : α} (hw : WF h) (hB : B ≤ h.length) (o1 : B ≤ ido) (o2 : B ≤ q) (o3 : h[ido]? = some (.cells (L.flatMap f) n (some q) true)) (hf : ∀ x, (f x).length = n)
    (i : Nat) (hi : i < L.length) (hk : k + vs.length ≤ n) (hok : vs.all okCell = true) (hy : f y = aput (f L[i]) k vs) :
    ∃ h', Keeps B h h' ∧ WF h' ∧ h'[ido]? = some (.cells ((L.set i y).flatMap f) n (some q) true) ∧ ∀ T : Heap, T.all noCls = true → astoresO (h ++ T) ido (i * n + k) vs = some (h' ++ T) := by
  obtain ⟨h', a1, a2, a3, a4, a5, a6⟩ := astores_cls vs h ido (i * n + k) q _ n o3 (flatMap_fits hf L i k _ hi hk) hok
  refine ⟨h', ⟨a2, fun j hj => ?_, fun j x e hn => a4 j x ?_ e ?_⟩, fun j c es k rw e => ?_, by rw [a3, aput_elem hf L i k vs y hi hk hy], a6⟩
  · have hlt : j < h.length := by omega
    rw [List.getElem?_eq_getElem hlt]
    exact a4 j _ (by omega) (List.getElem?_eq_getElem hlt) (WF.low hw (by omega) (List.getElem?_eq_getElem hlt))
  · rintro rfl; rw [o3] at e; cases e; simp [noCls] at hn
  · rintro c' es' rw rfl; simp [noCls] at hn
  · obtain ⟨c', es', rw', e'⟩ := a5 j c es k rw e
    exact hw _ _ _ _ _ e'
end
end Go.Proofs.Ytnhnelhcipafeaa.Ab
