/- The theorem on regions whose order is open. -/
import Derived.Test.YtnhnelhcipafeaaAb13
set_option linter.unusedSimpArgs false
set_option linter.unusedVariables false
namespace Go.Proofs.Ytnhnelhcipafeaa.Ab
open Go Go.RowKit

section
variable {G : Nat} {P : Program}

/-- What was done at a place of the text's order. -/
structure Ent where
  o : Oper
  T : List Value
  h : Heap
  v : Value
  on : Bool

def Ent.ae (e : Ent) : Bool := ocls e.o.op == 2
def StepOk (G : Nat) (P : Program) (ops : Array Oper) (e : Ent) (h1 : Heap) : Prop :=
  (e.on = false ∧ awanted ops e.T e.o.guard = some false ∧ e.v = .tuple #[] ∧ h1 = e.h) ∨
  (e.on = true ∧ awanted ops e.T e.o.guard = some true ∧
    ((∃ k args, acall (aeval G e.T) e.o.op = some (k, args) ∧ Does G P k args e.h (fun r h' => r = e.v ∧ h' = h1)) ∨
     (acall (aeval G e.T) e.o.op = none ∧ aop G P (aeval G e.T) e.o.op e.h = some (e.v, h1))))
def TraceOk (G : Nat) (P : Program) (ops : Array Oper) : List Value → Heap → List Ent → List Value → Heap → Prop
  | T, h, [], Tf, hf => T = Tf ∧ h = hf
  | T, h, e :: r, Tf, hf => e.T = T ∧ e.h = h ∧ ∃ h1, StepOk G P ops e h1 ∧ TraceOk G P ops (aset T e.o.dst e.v) h1 r Tf hf
/-! ### heaps between the operations that turn them -/
def hat : List Ent → Heap → Nat → Heap
  | [], hf, _ => hf
  | e :: r, hf, c => if e.ae then (match c with | 0 => e.h | c + 1 => hat r hf c) else hat r hf c
theorem StepOk.still {ops : Array Oper} {e : Ent} {h1 : Heap} (k : StepOk G P ops e h1) (hc : e.ae = false) : h1 = e.h := by
  have hne : ocls e.o.op ≠ 2 := by simpa [Ent.ae] using hc
  rcases k with ⟨_, _, _, rfl⟩ | ⟨_, _, ⟨k, args, h, _⟩ | ⟨_, h⟩⟩
  · rfl
  · rw [acall_cls hne] at h; cases h
  · by_cases h0 : ocls e.o.op = 0
    · exact (cls0 h0 h).1
    · have h1 : ocls e.o.op = 1 := by
        have : ocls e.o.op ≤ 2 := by unfold ocls; split <;> omega
        omega
      exact cls1 h1 h
theorem hat_zero {ops : Array Oper} : ∀ (tr : List Ent) (T : List Value) (h : Heap) (Tf : List Value) (hf : Heap), TraceOk G P ops T h tr Tf hf → hat tr hf 0 = h
  | [], T, h, Tf, hf, k => k.2.symm
  | e :: r, T, h, Tf, hf, k => by
    obtain ⟨h1, h2, hh, hs, ht⟩ := k
    simp only [hat]
    split
    · exact h2
    · rename_i hae
      rw [hat_zero r _ _ _ _ ht, hs.still (by simpa using hae), h2]
def cnt (S : Ent → Nat → Bool) : List Ent → Nat → Nat
  | [], _ => 0
  | e :: r, i => (if e.ae && S e i then 1 else 0) + cnt S r (i + 1)
/-- The trace cut at a place. -/
theorem trace_cut {ops : Array Oper} : ∀ (pre : List Ent) (e : Ent) (post : List Ent) (T : List Value) (h : Heap) (Tf : List Value) (hf : Heap), TraceOk G P ops T h (pre ++ e :: post) Tf hf →
    e.T = pre.foldl (fun T e => aset T e.o.dst e.v) T ∧ ∃ h1, StepOk G P ops e h1 ∧ TraceOk G P ops (aset e.T e.o.dst e.v) h1 post Tf hf ∧
      ∀ c, hat (pre ++ e :: post) hf (cnt (fun _ _ => true) pre 0 + c) = hat (e :: post) hf c
  | [], e, post, T, h, Tf, hf, k => by
    obtain ⟨h1, h2, hh, hs, ht⟩ := k
    exact ⟨h1, hh, hs, by rw [h1]; exact ht, fun c => by simp [cnt]⟩
  | x :: pre, e, post, T, h, Tf, hf, k => by
    obtain ⟨h1, h2, hh, hs, ht⟩ := k
    obtain ⟨a, h3, b, c, d⟩ := trace_cut pre e post _ _ _ _ ht
    refine ⟨a, h3, b, c, fun q => ?_⟩
    have hc1 : ∀ (l : List Ent) (i j : Nat), cnt (fun _ _ => true) l i = cnt (fun _ _ => true) l j := by
      intro l
      induction l with
      | nil => intro i j; rfl
      | cons y l ih => intro i j; simp only [cnt]; rw [ih (i + 1) (j + 1)]
    have := d q
    simp only [List.cons_append, hat, cnt, Bool.and_true]
    rw [hc1 pre (0 + 1) 0]
    split
    · rename_i hae
      rw [show 1 + cnt (fun _ _ => true) pre 0 + q = (cnt (fun _ _ => true) pre 0 + q) + 1 from by omega]
      exact this
    · rw [Nat.zero_add]; exact this

/-! ### the static look -/
def gtmp (ops : Array Oper) (o : Oper) : List Nat :=
  match o.guard with
  | some (j, _) => match (ops[j]?).bind (·.dst) with
    | some d => [d]
    | none => []
  | none => []
def named (ops : Array Oper) (o : Oper) : List Nat := o.dst.toList ++ opn o.op ++ gtmp ops o
def clash (ops : Array Oper) (a b : Oper) : Bool :=
  (match a.dst with | some d => (named ops b).contains d | none => false) || (match b.dst with | some d => (named ops a).contains d | none => false) ||
  (ocls a.op == 2 && ocls b.op == 2)
def pairsOk (ops : Array Oper) (ms : List Nat) (o : Oper) (i : Nat) : List Oper → Nat → Bool
  | [], _ => true
  | p :: r, j => (!(decide (j < i) && clash ops p o) || bef ms i j) && pairsOk ops ms o i r (j + 1)
def drawOk (ops : Array Oper) : Bool :=
  let l := ops.toList
  let ms := masks [] l
  (l.zipIdx.all fun (o, i) => (binding o).all (· < i) && pairsOk ops ms o i l 0)
theorem pairsOk_at {ops : Array Oper} {ms : List Nat} {o : Oper} {i : Nat} : ∀ (l : List Oper) (j0 : Nat), pairsOk ops ms o i l j0 = true → ∀ j p, l[j]? = some p → j0 + j < i → clash ops p o = true → bef ms i (j0 + j) = true
  | [], _, _, j, p, h, _, _ => by simp at h
  | x :: r, j0, k, 0, p, h, hlt, hc => by
    simp at h; subst h
    simp only [pairsOk, Bool.and_eq_true, Bool.or_eq_true, Bool.not_eq_true', Bool.and_eq_false_iff] at k
    rcases k.1 with (h1 | h1) | h1
    · simp at h1; omega
    · rw [hc] at h1; cases h1
    · simpa using h1
  | x :: r, j0, k, j + 1, p, h, hlt, hc => by
    simp only [pairsOk, Bool.and_eq_true] at k
    have := pairsOk_at r (j0 + 1) k.2 j p (by simpa using h) (by omega) hc
    rwa [show j0 + 1 + j = j0 + (j + 1) from by omega] at this
theorem drawOk_spec {ops : Array Oper} (hd : drawOk ops = true) : (∀ i o, ops.toList[i]? = some o → ∀ j ∈ binding o, j < i) ∧
    ∀ i j o p, ops.toList[i]? = some o → ops.toList[j]? = some p → j < i → clash ops p o = true → bef (masks [] ops.toList) i j = true := by
  simp only [drawOk, List.all_eq_true, Bool.and_eq_true] at hd
  have hz : ∀ i o, ops.toList[i]? = some o → (o, i) ∈ ops.toList.zipIdx := by
    intro i o h
    rw [List.mem_iff_getElem?]
    exact ⟨i, by simp [List.getElem?_zipIdx, h]⟩
  refine ⟨fun i o h j hj => by simpa using (hd _ (hz i o h)).1 j hj, fun i j o p hi hj hlt hc => ?_⟩
  have := pairsOk_at ops.toList 0 (hd _ (hz i o hi)).2 j p hj (by omega) hc
  simpa using this

/-- The window of a reading operation: how many of those that turn memory are before it; how many may be. -/
def winLo (ms : List Nat) (i : Nat) : List Oper → Nat → Nat
  | [], _ => 0
  | p :: r, j => (if (ocls p.op == 2) && bef ms i j then 1 else 0) + winLo ms i r (j + 1)
def winHi (ms : List Nat) (i : Nat) : List Oper → Nat → Nat
  | [], _ => 0
  | p :: r, j => (if (ocls p.op == 2) && !bef ms j i then 1 else 0) + winHi ms i r (j + 1)
def window (ops : Array Oper) (i : Nat) : Nat × Nat := (winLo (masks [] ops.toList) i ops.toList 0, winHi (masks [] ops.toList) i ops.toList 0)
/-- What a reading operation reads is the same wherever it may stand. -/
def readsOk (G : Nat) (P : Program) (e : Ent) (tr : List Ent) (hf : Heap) (lo : Nat) : Nat → Prop
  | 0 => True
  | n + 1 => aop G P (aeval G e.T) e.o.op (hat tr hf (lo + n)) = some (e.v, hat tr hf (lo + n)) ∧ readsOk G P e tr hf lo n
theorem readsOk_at {e : Ent} {tr : List Ent} {hf : Heap} {lo : Nat} : ∀ (n : Nat), readsOk G P e tr hf lo n → ∀ c, lo ≤ c → c < lo + n → aop G P (aeval G e.T) e.o.op (hat tr hf c) = some (e.v, hat tr hf c)
  | 0, _, c, h1, h2 => by omega
  | n + 1, k, c, h1, h2 => by
    by_cases hc : c = lo + n
    · subst hc; exact k.1
    · exact readsOk_at n k.2 c h1 (by omega)
def checks (G : Nat) (P : Program) (ws : List (Nat × Nat)) (all : List Ent) (hf : Heap) : List Ent → List (Nat × Nat) → Prop
  | e :: r, (lo, hi) :: ws' => (if ocls e.o.op = 1 ∧ e.on = true then readsOk G P e all hf lo (hi + 1 - lo) else True) ∧ checks G P ws all hf r ws'
  | _, _ => True
def windows (ops : Array Oper) : List (Nat × Nat) := (List.range ops.size).map (window ops)
theorem checks_at {ws0 : List (Nat × Nat)} {all : List Ent} {hf : Heap} : ∀ (tr : List Ent) (ws : List (Nat × Nat)), checks G P ws0 all hf tr ws → ∀ (i : Nat) (e : Ent) (lo hi : Nat), tr[i]? = some e → ws[i]? = some (lo, hi) → ocls e.o.op = 1 → e.on = true →
    ∀ c, lo ≤ c → c ≤ hi → aop G P (aeval G e.T) e.o.op (hat all hf c) = some (e.v, hat all hf c)
  | [], _, _, i, e, lo, hi, h, _, _, _ => by simp at h
  | _ :: _, [], _, i, e, lo, hi, _, h, _, _ => by simp at h
  | x :: r, (a, b) :: ws, k, 0, e, lo, hi, h1, h2, hc, hon => by
    simp at h1 h2
    obtain ⟨rfl, rfl⟩ := h2
    subst h1
    intro c g1 g2
    have := k.1
    rw [if_pos ⟨hc, hon⟩] at this
    exact readsOk_at _ this c g1 (by omega)
  | x :: r, (a, b) :: ws, k, i + 1, e, lo, hi, h1, h2, hc, hon => checks_at r ws k.2 i e lo hi (by simpa using h1) (by simpa using h2) hc hon

/-! ### what has been done so far -/
def foldS (L : Nat → Bool) : List Ent → Nat → List Value → List Value
  | [], _, T => T
  | e :: r, i, T => foldS L r (i + 1) (if L i then aset T e.o.dst e.v else T)
def cntS (L : Nat → Bool) : List Ent → Nat → Nat
  | [], _ => 0
  | e :: r, i => (if e.ae && L i then 1 else 0) + cntS L r (i + 1)
theorem foldS_append (L : Nat → Bool) : ∀ (a b : List Ent) (i : Nat) (T : List Value), foldS L (a ++ b) i T = foldS L b (i + a.length) (foldS L a i T)
  | [], b, i, T => by simp [foldS]
  | e :: a, b, i, T => by
    simp only [List.cons_append, foldS, List.length_cons]
    rw [foldS_append L a b (i + 1)]
    rw [show i + 1 + a.length = i + (a.length + 1) from by omega]
theorem cntS_append (L : Nat → Bool) : ∀ (a b : List Ent) (i : Nat), cntS L (a ++ b) i = cntS L a i + cntS L b (i + a.length)
  | [], b, i => by simp [cntS]
  | e :: a, b, i => by
    simp only [List.cons_append, cntS, List.length_cons]
    rw [cntS_append L a b (i + 1)]
    rw [show i + 1 + a.length = i + (a.length + 1) from by omega]
    omega
theorem foldS_congr {L L' : Nat → Bool} : ∀ (l : List Ent) (i : Nat) (T : List Value), (∀ j, i ≤ j → j < i + l.length → L j = L' j) → foldS L l i T = foldS L' l i T
  | [], _, _, _ => rfl
  | e :: r, i, T, h => by
    simp only [foldS]
    rw [h i (Nat.le_refl _) (by simp), foldS_congr r (i + 1) _ fun j h1 h2 => h j (by omega) (by simp; omega)]
theorem aset_get {T : List Value} {d : Option Tmp} {v : Value} {t : Nat} (h : d ≠ some t) : (aset T d v)[t]? = T[t]? := by
  cases d with
  | none => rfl
  | some d => exact List.getElem?_set_ne (fun e => h (by rw [e]))
theorem aset_get_congr {T T' : List Value} {d : Option Tmp} {v : Value} {t : Nat} (hlen : T.length = T'.length) (h : T[t]? = T'[t]?) : (aset T d v)[t]? = (aset T' d v)[t]? := by
  cases d with
  | none => exact h
  | some d =>
    simp only [aset, List.getElem?_set, hlen, h]
theorem aset_length (T : List Value) (d : Option Tmp) (v : Value) : (aset T d v).length = T.length := by cases d <;> simp [aset]
theorem aset_comm {T : List Value} {d d' : Option Tmp} {v v' : Value} (h : ∀ t, d = some t → d' ≠ some t) : aset (aset T d v) d' v' = aset (aset T d' v') d v := by
  cases d with
  | none => rfl
  | some d => cases d' with
    | none => rfl
    | some d' => exact List.set_comm _ _ (fun e => h d rfl (by rw [e]))
theorem foldS_length (L : Nat → Bool) : ∀ (l : List Ent) (i : Nat) (T : List Value), (foldS L l i T).length = T.length
  | [], _, _ => rfl
  | e :: r, i, T => by simp only [foldS]; rw [foldS_length L r]; split <;> simp [aset_length]
theorem foldl_length : ∀ (l : List Ent) (T : List Value), (l.foldl (fun T e => aset T e.o.dst e.v) T).length = T.length
  | [], _ => rfl
  | e :: r, T => by simp only [List.foldl_cons]; rw [foldl_length r, aset_length]
/-- Ahead of the place: what is not done does not count for t. -/
theorem fold_pre {L : Nat → Bool} {t : Nat} : ∀ (l : List Ent) (i : Nat) (T T' : List Value), T.length = T'.length → T[t]? = T'[t]? → (∀ j e, l[j]? = some e → L (i + j) = false → e.o.dst ≠ some t) →
    (foldS L l i T)[t]? = (l.foldl (fun T e => aset T e.o.dst e.v) T')[t]?
  | [], _, _, _, _, h, _ => h
  | e :: r, i, T, T', hl, h, k => by
    simp only [foldS, List.foldl_cons]
    refine fold_pre r (i + 1) _ _ ?_ ?_ fun j x hx hL => k (j + 1) x (by simpa using hx) (by rw [← hL]; congr 1; omega)
    · split <;> simp [aset_length, hl]
    · split
      · exact aset_get_congr hl h
      · rename_i hL
        rw [aset_get (k 0 e rfl (by simpa using hL))]; exact h
/-- Behind the place. -/
theorem fold_post {L : Nat → Bool} {t : Nat} : ∀ (l : List Ent) (i : Nat) (T : List Value), (∀ j e, l[j]? = some e → L (i + j) = true → e.o.dst ≠ some t) → (foldS L l i T)[t]? = T[t]?
  | [], _, _, _ => rfl
  | e :: r, i, T, k => by
    simp only [foldS]
    rw [fold_post r (i + 1) _ fun j x hx hL => k (j + 1) x (by simpa using hx) (by rw [← hL]; congr 1; omega)]
    split
    · rename_i hL; exact aset_get (k 0 e rfl hL)
    · rfl
theorem fold_set {L : Nat → Bool} {d : Option Tmp} {v : Value} : ∀ (l : List Ent) (i : Nat) (T : List Value), (∀ j e, l[j]? = some e → L (i + j) = true → ∀ t, d = some t → e.o.dst ≠ some t) → foldS L l i (aset T d v) = aset (foldS L l i T) d v
  | [], _, _, _ => rfl
  | e :: r, i, T, k => by
    simp only [foldS]
    have kr := fun j x (hx : r[j]? = some x) (hL : L (i + 1 + j) = true) => k (j + 1) x (by simpa using hx) (by rw [← hL]; congr 1; omega)
    split
    · rename_i hL
      rw [aset_comm (k 0 e rfl hL), fold_set r (i + 1) _ kr]
    · exact fold_set r (i + 1) _ kr
theorem foldS_all {L : Nat → Bool} : ∀ (l : List Ent) (i : Nat) (T : List Value), (∀ j, j < l.length → L (i + j) = true) → foldS L l i T = l.foldl (fun T e => aset T e.o.dst e.v) T
  | [], _, _, _ => rfl
  | e :: r, i, T, h => by
    simp only [foldS, List.foldl_cons]
    rw [if_pos (by simpa using h 0 (by simp)), foldS_all r (i + 1) _ fun j hj => by have := h (j + 1) (by simp; omega); rw [← this]; congr 1; omega]
theorem foldS_none {L : Nat → Bool} : ∀ (l : List Ent) (i : Nat) (T : List Value), (∀ j, L j = false) → foldS L l i T = T
  | [], _, _, _ => rfl
  | e :: r, i, T, h => by simp only [foldS, h, Bool.false_eq_true, if_false]; exact foldS_none r (i + 1) T h
theorem cntS_none {L : Nat → Bool} : ∀ (l : List Ent) (i : Nat), (∀ j, L j = false) → cntS L l i = 0
  | [], _, _ => rfl
  | e :: r, i, h => by simp only [cntS, h, Bool.and_false, Bool.false_eq_true, if_false]; rw [cntS_none r (i + 1) h]
theorem trace_end {ops : Array Oper} : ∀ (tr : List Ent) (T : List Value) (h : Heap) (Tf : List Value) (hf : Heap), TraceOk G P ops T h tr Tf hf →
    tr.foldl (fun T e => aset T e.o.dst e.v) T = Tf ∧ hat tr hf (cntS (fun _ => true) tr 0) = hf
  | [], T, h, Tf, hf, k => ⟨k.1, rfl⟩
  | e :: r, T, h, Tf, hf, k => by
    obtain ⟨h1, h2, hh, hs, ht⟩ := k
    obtain ⟨a, b⟩ := trace_end r _ _ _ _ ht
    have hc1 : ∀ (l : List Ent) (i j : Nat), cntS (fun _ => true) l i = cntS (fun _ => true) l j := by
      intro l
      induction l with
      | nil => intro i j; rfl
      | cons y l ih => intro i j; simp only [cntS]; rw [ih (i + 1) (j + 1)]
    refine ⟨a, ?_⟩
    simp only [hat, cntS, Bool.and_true]
    rw [hc1 r (0 + 1) 0]
    split
    · rw [Nat.add_comm]; exact b
    · rw [Nat.zero_add]; exact b
theorem cnt_cntS (l : List Ent) : ∀ i, cnt (fun _ _ => true) l i = cntS (fun _ => true) l i := by
  induction l with
  | nil => intro i; rfl
  | cons e r ih => intro i; simp only [cnt, cntS]; rw [ih]

/-! ### any order -/
theorem count_set : ∀ (l : List Bool) (i : Nat), l[i]? = some false → (l.set i true).count false + 1 = l.count false
  | [], _, h => by simp at h
  | x :: r, 0, h => by simp at h; subst h; simp
  | x :: r, i + 1, h => by
    have := count_set r i (by simpa using h)
    simp only [List.set_cons_succ, List.count_cons]
    omega
theorem wpAny_inv {ops : Array Oper} {Q : Exit → Act → World → Prop} (Inv : Array Bool → Act → World → Prop)
    (done : ∀ listed a w, Region.ready .any ops listed = [] → Inv listed a w → Q .normal a w)
    (step : ∀ listed a w i, i ∈ Region.ready .any ops listed → Inv listed a w → wpOp P ops Q i (Inv (listed.setIfInBounds i true)) a w) :
    ∀ fuel (listed : Array Bool) a w, listed.toList.count false ≤ fuel → Inv listed a w → wpAny P .any ops Q fuel listed a w := by
  have rdy : ∀ (listed : Array Bool) i, i ∈ Region.ready .any ops listed → listed.toList[i]? = some false := by
    intro listed i hi
    obtain ⟨h, _⟩ := mem_ready.1 hi
    rw [Array.getElem?_toList]
    cases e : listed[i]? with
    | none => rw [Array.getD_eq_getD_getElem?, e] at h; simp at h
    | some b => rw [Array.getD_eq_getD_getElem?, e] at h; simp at h; rw [h]
  intro fuel
  induction fuel with
  | zero =>
    intro listed a w hc hI
    have : Region.ready .any ops listed = [] := by
      cases hr : Region.ready .any ops listed with
      | nil => rfl
      | cons i r =>
        have := count_set _ i (rdy listed i (by rw [hr]; simp))
        omega
    exact ⟨this, done _ _ _ this hI⟩
  | succ fuel ih =>
    intro listed a w hc hI
    refine ⟨fun hr => done _ _ _ hr hI, fun i hi => wpOp_mono (fun a w k => ih _ a w ?_ k) (step _ _ _ i hi hI)⟩
    have := count_set _ i (rdy listed i hi)
    rw [Array.toList_setIfInBounds]; omega

theorem getD_set {l : Array Bool} {i j : Nat} (hi : i < l.size) : (l.setIfInBounds i true).getD j false = if j = i then true else l.getD j false := by
  by_cases h : j = i
  · subst h
    rw [if_pos rfl, Array.getD_eq_getD_getElem?, Array.getElem?_setIfInBounds, if_pos rfl]
    simp [hi]
  · rw [if_neg h, Array.getD_eq_getD_getElem?, Array.getElem?_setIfInBounds, if_neg (fun e => h e.symm), ← Array.getD_eq_getD_getElem?]
theorem cntS_split (L : Nat → Bool) (pre : List Ent) (e : Ent) (post : List Ent) : cntS L (pre ++ e :: post) 0 = cntS L pre 0 + ((if e.ae && L pre.length then 1 else 0) + cntS L post (pre.length + 1)) := by
  rw [cntS_append]; simp only [cntS, Nat.zero_add]
theorem cntS_eq {L L' : Nat → Bool} : ∀ (l : List Ent) (i : Nat), (∀ j e, l[j]? = some e → e.ae = true → L (i + j) = L' (i + j)) → cntS L l i = cntS L' l i
  | [], _, _ => rfl
  | e :: r, i, h => by
    simp only [cntS]
    rw [cntS_eq (L := L) (L' := L') r (i + 1) fun j x hx hae => by have := h (j + 1) x (by simpa using hx) hae; rwa [show i + (j + 1) = i + 1 + j from by omega] at this]
    by_cases he : e.ae = true
    · have := h 0 e rfl he
      rw [Nat.add_zero] at this
      rw [this]
    · simp [he]
theorem cntS_le {L L' : Nat → Bool} : ∀ (l : List Ent) (i : Nat), (∀ j e, l[j]? = some e → e.ae = true → L (i + j) = true → L' (i + j) = true) → cntS L l i ≤ cntS L' l i
  | [], _, _ => Nat.le_refl _
  | e :: r, i, h => by
    have := cntS_le (L := L) (L' := L') r (i + 1) fun j x hx hae hL => by have := h (j + 1) x (by simpa using hx) hae (by rwa [show i + (j + 1) = i + 1 + j from by omega]); rwa [show i + (j + 1) = i + 1 + j from by omega] at this
    simp only [cntS]
    by_cases he : (e.ae && L i) = true
    · simp only [Bool.and_eq_true] at he
      have := h 0 e rfl he.1 (by simpa using he.2)
      rw [Nat.add_zero] at this
      simp [he.1, he.2, this]; omega
    · simp [he]; omega
theorem winLo_eq {ops : List Oper} {ms : List Nat} {i : Nat} : ∀ (tr : List Ent) (l : List Oper) (j : Nat), tr.map (·.o) = l → winLo ms i l j = cntS (fun k => bef ms i k) tr j
  | [], l, j, h => by subst h; rfl
  | e :: r, l, j, h => by
    subst h
    simp only [List.map_cons, winLo, cntS, Ent.ae]
    rw [winLo_eq (ops := ops) r _ (j + 1) rfl]
    rfl
theorem winHi_eq {ops : List Oper} {ms : List Nat} {i : Nat} : ∀ (tr : List Ent) (l : List Oper) (j : Nat), tr.map (·.o) = l → winHi ms i l j = cntS (fun k => !bef ms k i) tr j
  | [], l, j, h => by subst h; rfl
  | e :: r, l, j, h => by
    subst h
    simp only [List.map_cons, winHi, cntS, Ent.ae]
    rw [winHi_eq (ops := ops) r _ (j + 1) rfl]
    rfl

theorem mem_opn {o : Op} {x : Operand} {t : Nat} (hx : x ∈ o.operands) (h : x = .tmp t) : t ∈ opn o := by
  subst h
  unfold opn
  rw [List.mem_filterMap]
  exact ⟨.tmp t, by simpa using hx, rfl⟩

variable {Q : Exit → List Value → Heap → Prop} {T : List Value} {h : Heap}
theorem Aw.traced {id : Nat} {ops : Array Oper} (hm : P.follows .mixedOrders = true) (hok : drawOk ops = true) (tr : List Ent) (Tf : List Value) (hf : Heap)
    (hkq : checks G P (windows ops) tr hf tr (windows ops) ∧ Q .normal Tf hf) (htr : tr.map (·.o) = ops.toList) (hto : TraceOk G P ops T h tr Tf hf) : Aw G P (.region id ops true) Q T h := by
  intro φ0 w0 a0 s0 hT0 hd0
  obtain ⟨hck, hQ⟩ := hkq
  obtain ⟨hback, hcl⟩ := drawOk_spec hok
  have hlen : tr.length = ops.size := by have := congrArg List.length htr; simpa using this
  refine wp_region_any hm ?_
  have s1 := s0.drawn (w0.drawn + 1)
  let ms := masks [] ops.toList
  let Inv : Array Bool → Act → World → Prop := fun listed a w =>
    listed.size = ops.size ∧ a.defers = [] ∧ (∀ i o, ops.toList[i]? = some o → listed.getD i false = true → ∀ j ∈ binding o, listed.getD j false = true) ∧
    ∃ φ, Post G φ0 h w0 φ (hat tr hf (cntS (fun i => listed.getD i false) tr 0)) w ∧ VRs φ (foldS (fun i => listed.getD i false) tr 0 T) a.tmps.toList
  refine wpAny_inv Inv ?_ ?_ _ _ _ _ ?_ ?_
  · -- the end
    rintro listed a w hr ⟨hsz, hd, hclo, φ, p, hT⟩
    have all : ∀ i, i < ops.size → listed.getD i false = true := by
      intro i
      induction i using Nat.strongRecOn with
      | _ i ih =>
        intro hi
        apply Classical.byContradiction; intro hn
        have : i ∈ Region.ready .any ops listed := by
          refine mem_ready.2 ⟨?_, ops[i], by simp [hi], fun e he hb => ?_⟩
          · have hil : i < listed.size := by omega
            simp [Array.getD_eq_getD_getElem?, hil] at hn ⊢
            exact hn
          · have hj : e.on ∈ binding ops[i] := by
              unfold binding
              rw [List.mem_filterMap]
              exact ⟨e, by simpa using he, by rw [if_pos hb]⟩
            have hlt := hback i ops[i] (by simp [hi]) _ hj
            exact ih _ hlt (by omega)
        rw [hr] at this; simp at this
    obtain ⟨e1, e2⟩ := trace_end tr _ _ _ _ hto
    refine ⟨hd, Tf, hf, φ, hQ, ?_, ?_⟩
    · rw [foldS_all tr 0 T (fun j hj => all _ (by omega)), e1] at hT; exact hT
    · rw [cntS_eq (L' := fun _ => true) tr 0 (fun j e hj _ => all _ (by
        have : j < tr.length := by
          apply Classical.byContradiction; intro hn
          rw [List.getElem?_eq_none (by omega)] at hj; cases hj
        omega)), e2] at p
      exact p
  · -- one operation
    rintro listed a w i hi ⟨hsz, hd, hclo, φ, p, hT⟩
    obtain ⟨hni, o, ho, hrd⟩ := mem_ready.1 hi
    have hio : i < ops.size := (Array.getElem?_eq_some_iff.1 ho).1
    have hil : i < listed.size := by omega
    have hLi : listed.getD i false = false := by
      rw [Array.getD_eq_getD_getElem?] at hni ⊢
      simp [hil] at hni ⊢; exact hni
    have hoL : ops.toList[i]? = some o := by rw [Array.getElem?_toList]; exact ho
    have hbi : ∀ j ∈ binding o, listed.getD j false = true := by
      intro j hj
      unfold binding at hj
      rw [List.mem_filterMap] at hj
      obtain ⟨e, he, hej⟩ := hj
      split at hej
      · cases hej; exact hrd e (by simpa using he) (by assumption)
      · cases hej
    -- the place in the trace
    obtain ⟨e, het⟩ : ∃ e, tr[i]? = some e := ⟨tr[i]'(by omega), by simp [hlen, hio]⟩
    have heo : e.o = o := by
      have := congrArg (fun l => l[i]?) htr
      simp only [List.getElem?_map, het, Option.map_some, hoL, Option.some.injEq] at this
      exact this
    have hsplit : tr = tr.take i ++ e :: tr.drop (i + 1) := by
      have h1 : tr.drop i = e :: tr.drop (i + 1) := by
        rw [List.drop_eq_getElem_cons (by omega)]
        rw [List.getElem?_eq_getElem (by omega)] at het
        cases het; rfl
      rw [← h1, List.take_append_drop]
    generalize hpre : tr.take i = pre at hsplit
    generalize hpost : tr.drop (i + 1) = post at hsplit
    have hpl : pre.length = i := by rw [← hpre]; simp; omega
    have hop : ∀ (j : Nat) (x : Ent), tr[j]? = some x → ops.toList[j]? = some x.o := by
      intro j x hx
      have := congrArg (fun l => l[j]?) htr
      simp only [List.getElem?_map, hx, Option.map_some] at this
      exact this.symm
    have hprej : ∀ (j : Nat) (x : Ent), pre[j]? = some x → j < i ∧ tr[j]? = some x := by
      intro j x hx
      have hj : j < pre.length := by
        apply Classical.byContradiction; intro hn
        rw [List.getElem?_eq_none (by omega)] at hx; cases hx
      refine ⟨by omega, ?_⟩
      rw [hsplit, List.getElem?_append_left hj]; exact hx
    have hpostj : ∀ (j : Nat) (x : Ent), post[j]? = some x → tr[i + 1 + j]? = some x := by
      intro j x hx
      rw [hsplit, List.getElem?_append_right (by omega)]
      rw [show i + 1 + j - pre.length = j + 1 from by omega]
      simpa using hx
    -- who is done
    have predsIn : ∀ j, bef ms i j = true → listed.getD j false = true := bef_in (fun j => listed.getD j false = true) hclo i o hoL hbi
    have succNot : ∀ (j : Nat) (x : Ent), tr[j]? = some x → bef ms j i = true → listed.getD j false = false := by
      intro j x hx hb
      cases hc : listed.getD j false with
      | false => rfl
      | true =>
        have hj := hop j x hx
        have := bef_in (fun j => listed.getD j false = true) hclo j x.o hj (hclo j x.o hj hc) i hb
        rw [hLi] at this; cases this
    have preClash : ∀ (j : Nat) (x : Ent), pre[j]? = some x → clash ops x.o o = true → listed.getD j false = true := by
      intro j x hx hc
      obtain ⟨hlt, hxt⟩ := hprej j x hx
      exact predsIn j (hcl i j o x.o hoL (hop j x hxt) hlt hc)
    have postClash : ∀ (j : Nat) (x : Ent), post[j]? = some x → clash ops o x.o = true → listed.getD (i + 1 + j) false = false := by
      intro j x hx hc
      have hxt := hpostj j x hx
      exact succNot _ x hxt (hcl (i + 1 + j) i x.o o (hop _ x hxt) hoL (by omega) hc)
    have named_pre : ∀ (j : Nat) (x : Ent) (t : Nat), pre[j]? = some x → listed.getD (0 + j) false = false → t ∈ named ops o → x.o.dst ≠ some t := by
      intro j x t hx hL ht hd
      have : clash ops x.o o = true := by unfold clash; rw [hd]; simp [ht]
      have := preClash j x hx this
      rw [Nat.zero_add] at hL
      rw [hL] at this; cases this
    have named_post : ∀ (j : Nat) (x : Ent) (t : Nat), post[j]? = some x → listed.getD (i + 1 + j) false = true → t ∈ named ops o → x.o.dst ≠ some t := by
      intro j x t hx hL ht hd
      have : clash ops o x.o = true := by unfold clash; rw [hd]; simp [ht]
      have := postClash j x hx this
      rw [hL] at this; cases this
    -- the trace at the place
    rw [hsplit] at hto
    obtain ⟨heT, h1, hstep, hrest, hhat⟩ := trace_cut pre e post _ _ _ _ hto
    rw [← hsplit] at hhat
    have agree : ∀ t, t ∈ named ops o → (foldS (fun i => listed.getD i false) tr 0 T)[t]? = e.T[t]? := by
      intro t ht
      rw [hsplit, foldS_append]
      simp only [foldS, hpl, Nat.zero_add, hLi, Bool.false_eq_true, if_false]
      rw [fold_post post (i + 1) _ fun j x hx hL => named_post j x t hx hL ht]
      rw [fold_pre pre 0 T T rfl rfl fun j x hx hL => named_pre j x t hx hL ht, ← heT]
    have hTlen : (foldS (fun i => listed.getD i false) tr 0 T).length = e.T.length := by
      rw [foldS_length, heT, foldl_length]
    have evEq : ∀ x ∈ o.op.operands, aeval G (foldS (fun i => listed.getD i false) tr 0 T) x = aeval G e.T x := by
      intro x hx
      cases x with
      | tmp t =>
        simp only [aeval, List.getD_eq_getElem?_getD]
        rw [agree t (by unfold named; simp [mem_opn hx rfl])]
      | _ => rfl
    have gEq : awanted ops (foldS (fun i => listed.getD i false) tr 0 T) o.guard = awanted ops e.T o.guard := by
      unfold awanted
      cases hg : o.guard with
      | none => rfl
      | some jw =>
        obtain ⟨j, want⟩ := jw
        simp only
        cases hdst : (ops[j]?).bind (·.dst) with
        | none => rfl
        | some d =>
          simp only [Option.bind_some]
          rw [agree d (by unfold named gtmp; rw [hg]; simp [hdst])]
    have hfold : ∀ (_ : Value), foldS (fun q => (listed.setIfInBounds i true).getD q false) tr 0 T = aset (foldS (fun i => listed.getD i false) tr 0 T) o.dst e.v := by
      intro _
      have hset : ∀ q, (listed.setIfInBounds i true).getD q false = if q = i then true else listed.getD q false := fun q => getD_set hil
      rw [hsplit, foldS_append, foldS_append]
      simp only [foldS, hpl, Nat.zero_add, hLi, Bool.false_eq_true, if_false, hset, if_true, heo]
      rw [foldS_congr (L := fun q => if q = i then true else listed.getD q false) (L' := fun q => listed.getD q false) pre 0 T fun j _ hj => by rw [if_neg (by omega)]]
      rw [foldS_congr (L := fun q => if q = i then true else listed.getD q false) (L' := fun q => listed.getD q false) post (i + 1) _ fun j hj _ => by rw [if_neg (by omega)]]
      rw [fold_set post (i + 1) _ fun j x hx hL t ht => named_post j x t hx hL (by unfold named; rw [ht]; simp)]
    have hcnt : cntS (fun q => (listed.setIfInBounds i true).getD q false) tr 0 = cntS (fun i => listed.getD i false) tr 0 + (if e.ae then 1 else 0) := by
      have hset : ∀ q, (listed.setIfInBounds i true).getD q false = if q = i then true else listed.getD q false := fun q => getD_set hil
      rw [hsplit, cntS_split, cntS_split]
      simp only [hpl, hset, if_true, hLi, Bool.and_true, Bool.and_false, Bool.false_eq_true, if_false]
      rw [cntS_eq (L := fun q => if q = i then true else listed.getD q false) (L' := fun q => listed.getD q false) pre 0 fun j x hx _ => by
        have := (hprej j x hx).1; rw [if_neg (by omega)]]
      rw [cntS_eq (L := fun q => if q = i then true else listed.getD q false) (L' := fun q => listed.getD q false) post (i + 1) fun j x hx _ => by
        rw [if_neg (by omega)]]
      omega
    have hclo' : ∀ j o, ops.toList[j]? = some o → (listed.setIfInBounds i true).getD j false = true → ∀ q ∈ binding o, (listed.setIfInBounds i true).getD q false = true := by
      intro j o' hj hL q hq
      rw [getD_set hil] at hL ⊢
      split
      · rfl
      · by_cases hji : j = i
        · subst hji; rw [hoL] at hj; cases hj; exact hbi q hq
        · rw [if_neg hji] at hL; exact hclo j o' hj hL q hq
    have hwant : ∀ b, awanted ops e.T o.guard = some b → Region.wanted o (yielded ops a.tmps) = b := fun b hb => awanted_ok hT (gEq.trans hb)
    have finish : ∀ (v' : Value) (φ' : Emb) (w' : World), VR φ' e.v v' → Post G φ (hat tr hf (cntS (fun i => listed.getD i false) tr 0)) w φ' (hat tr hf (cntS (fun i => listed.getD i false) tr 0 + (if e.ae then 1 else 0))) w' →
        Inv (listed.setIfInBounds i true) (a.put o.dst v') w' := by
      intro v' φ' w' hv pp
      refine ⟨by simpa using hsz, by cases o.dst <;> exact hd, hclo', φ', ?_, ?_⟩
      · rw [hcnt]; exact Post.trans s0 p pp
      · rw [hfold e.v]; exact aset_ok (hT.mono pp.ext) o.dst hv
    simp only [wpOp, ho]
    rcases hstep with ⟨hon, hw, hv, hh⟩ | ⟨hon, hw, hdo⟩
    · -- not asked for
      rw [heo] at hw
      rw [hwant _ hw]
      simp only [Bool.false_eq_true, if_false]
      refine finish undef φ w (by rw [hv]; exact .tuple _ _ .nil) ?_
      have : hat tr hf (cntS (fun i => listed.getD i false) tr 0 + (if e.ae then 1 else 0)) = hat tr hf (cntS (fun i => listed.getD i false) tr 0) := by
        by_cases hae : e.ae = true
        · -- the count is the place
          have hc : cntS (fun i => listed.getD i false) tr 0 = cntS (fun _ => true) pre 0 := by
            rw [hsplit, cntS_split]
            simp only [hpl, hLi, Bool.and_false, Bool.false_eq_true, if_false, Nat.zero_add]
            rw [cntS_eq (L' := fun _ => true) pre 0 fun j x hx hxa => by
              rw [Nat.zero_add]
              exact preClash j x hx (by unfold clash; rw [← heo]; simp only [Ent.ae] at hae hxa; simp [hae, hxa])]
            rw [cntS_eq (L' := fun _ => false) post (i + 1) fun j x hx hxa => by
              exact postClash j x hx (by unfold clash; rw [← heo]; simp only [Ent.ae] at hae hxa; simp [hae, hxa])]
            rw [cntS_none _ _ (fun _ => rfl), Nat.add_zero]
          rw [if_pos hae, hc]
          have a1 := hhat 0
          have a2 := hhat 1
          rw [cnt_cntS, Nat.add_zero] at a1
          rw [cnt_cntS] at a2
          rw [a1, a2]
          simp only [hat, hae, if_true]
          rw [hat_zero post _ _ _ _ hrest, hh]
        · rw [if_neg hae, Nat.add_zero]
      rw [this]
      exact Post.refl p.sim
    · rw [heo] at hw
      rw [hwant _ hw]
      simp only [if_true]
      left
      have hev := fun x => aeval_ok p.sim hT (G := G) x
      by_cases hae : e.ae = true
      · -- memory may turn: it stands at its place
        have hc : cntS (fun i => listed.getD i false) tr 0 = cntS (fun _ => true) pre 0 := by
          rw [hsplit, cntS_split]
          simp only [hpl, hLi, Bool.and_false, Bool.false_eq_true, if_false, Nat.zero_add]
          rw [cntS_eq (L' := fun _ => true) pre 0 fun j x hx hxa => by
            rw [Nat.zero_add]
            exact preClash j x hx (by unfold clash; rw [← heo]; simp only [Ent.ae] at hae hxa; simp [hae, hxa])]
          rw [cntS_eq (L' := fun _ => false) post (i + 1) fun j x hx hxa => by
            exact postClash j x hx (by unfold clash; rw [← heo]; simp only [Ent.ae] at hae hxa; simp [hae, hxa])]
          rw [cntS_none _ _ (fun _ => rfl), Nat.add_zero]
        have a1 := hhat 0
        have a2 := hhat 1
        rw [cnt_cntS, Nat.add_zero, ← hc] at a1
        rw [cnt_cntS, ← hc] at a2
        simp only [hat, hae, if_true] at a1 a2
        rw [hat_zero post _ _ _ _ hrest] at a2
        rw [if_pos hae] at finish
        rw [a1] at p finish
        rw [a2] at finish
        rcases hdo with ⟨kf, args, hcall, hdoes⟩ | ⟨hcall, hop'⟩
        · rw [heo, ← acall_congr evEq] at hcall
          obtain ⟨cargs, hr, hargs⟩ := acall_ok (P := P) hev hcall hdoes.1 w
          simp only [Oper.wp, hr, Oper.upon_enter]
          refine (hdoes.2 φ w cargs p.sim hargs).mono ?_
          rintro ex w' ⟨v', r, h', φ', rfl, ⟨rfl, rfl⟩, hv, pp⟩
          exact finish v' φ' w' hv pp
        · rw [heo, ← aop_congr evEq] at hop'
          obtain ⟨n, v', w', φ', hr, hn, hv, pp⟩ := aop_ok (P := P) p.sim hev hop'
          simp only [Oper.wp, hr]
          rcases hn with rfl | ⟨rfl, rfl⟩
          · exact finish v' φ' w' hv pp
          · exact finish _ φ' w' hv pp
      · -- it only asks
        have hne : ocls e.o.op ≠ 2 := by simpa [Ent.ae] using hae
        rw [if_neg hae, Nat.add_zero] at finish
        rcases hdo with ⟨kf, args, hcall, hdoes⟩ | ⟨hcall, hop'⟩
        · rw [acall_cls hne] at hcall; cases hcall
        have here : aop G P (aeval G e.T) e.o.op (hat tr hf (cntS (fun i => listed.getD i false) tr 0)) = some (e.v, hat tr hf (cntS (fun i => listed.getD i false) tr 0)) := by
          by_cases h0 : ocls e.o.op = 0
          · exact (cls0 h0 hop').2 _
          · have h1c : ocls e.o.op = 1 := by
              have : ocls e.o.op ≤ 2 := by unfold ocls; split <;> omega
              omega
            refine checks_at tr (windows ops) hck i e (window ops i).1 (window ops i).2 het (by simp [windows, hio]) h1c hon _ ?_ ?_
            · unfold window
              rw [winLo_eq (ops := ops.toList) tr _ 0 htr]
              exact cntS_le tr 0 fun j x hx hxa hb => predsIn _ hb
            · unfold window
              rw [winHi_eq (ops := ops.toList) tr _ 0 htr]
              refine cntS_le tr 0 fun j x hx hxa hL => ?_
              cases hb : bef (masks [] ops.toList) (0 + j) i with
              | false => rfl
              | true =>
                have := succNot (0 + j) x (by simpa using hx) hb
                rw [hL] at this; cases this
        rw [heo, ← aop_congr evEq] at here
        obtain ⟨n, v', w', φ', hr, hn, hv, pp⟩ := aop_ok (P := P) p.sim hev here
        simp only [Oper.wp, hr]
        rcases hn with rfl | ⟨rfl, rfl⟩
        · exact finish v' φ' w' hv pp
        · exact finish _ φ' w' hv pp
  · simp
  · refine ⟨by simp, hd0, ?_, φ0, ?_, ?_⟩
    · intro i o _ hL
      rw [Array.getD_eq_getD_getElem?] at hL
      by_cases hi : i < ops.size <;> simp [hi] at hL
    · have hz : ∀ j, (Array.replicate ops.size false).getD j false = false := by
        intro j
        rw [Array.getD_eq_getD_getElem?]
        by_cases hi : j < ops.size <;> simp [hi]
      rw [cntS_none tr 0 hz, hat_zero tr _ _ _ _ hto]
      have := Post.refl s1
      exact this.undraw
    · have hz : ∀ j, (Array.replicate ops.size false).getD j false = false := by
        intro j
        rw [Array.getD_eq_getD_getElem?]
        by_cases hi : j < ops.size <;> simp [hi]
      rw [foldS_none tr 0 T hz]; exact hT0

end
end Go.Proofs.Ytnhnelhcipafeaa.Ab
