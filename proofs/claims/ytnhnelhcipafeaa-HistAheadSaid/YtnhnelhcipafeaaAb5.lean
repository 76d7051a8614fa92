/- Structs out of parts, slices: cutting, making, appending, copying. -/
import Derived.Test.YtnhnelhcipafeaaAb4
set_option linter.unusedSimpArgs false
set_option linter.unusedVariables false
namespace Go.Proofs.Ytnhnelhcipafeaa.Ab
open Go Go.RowKit

section
variable {G : Nat} {P : Program} {φ : Emb} {h : Heap} {w : World}

/-! ### build -/
/-- The places of a struct's fields. -/
def tplaces (P : Program) : List Field → Option (List (Nat × Nat))
  | [] => some []
  | f :: fs => match tin P f.type, tplaces P fs with
    | some (_, n), some r => some ((f.offset, n) :: r)
    | _, _ => none
/-- Of a struct type: its zero, and where its parts lie. -/
def tparts (P : Program) (t : TypeId) : Option (List Value × List (Nat × Nat)) :=
  match P.underlying t, tz P t with
  | some (.struct fs), some z => match tplaces P fs.toList with
    | some ps => some (z, ps)
    | none => none
  | _, _ => none
theorem run_map' {α β : Type} (f : α → β) (x : Sem α) (w : World) : (f <$> x).run P w = (x.run P w).andThen fun a w' => .ok (f a) w' := by
  show (x >>= fun a => pure (f a)).run P w = _
  rw [Sem.run_bind]; rfl
theorem places_run {fs : List Field} {ps : List (Nat × Nat)} (h : tplaces P fs = some ps) (w : World) :
    (fs.mapM (m := Sem) fun f => do pure (f.offset, ← sizeOf f.type)).run P w = .ok ps w := by
  induction fs generalizing ps with
  | nil => cases h; rfl
  | cons f fs ih =>
    simp only [tplaces] at h
    split at h
    case h_2 => cases h
    rename_i g n r ht hr
    cases h
    rw [List.mapM_cons]
    simp only [Sem.run_bind, (tin_run ht w).2, Result.andThen_ok, Sem.run_pure, ih hr]
def abuild (k : List Value × List (Nat × Nat)) (parts : List (Nat × Value)) : Option Value :=
  (afill (fun i => k.2[i]?) k.1 parts).map fun c => .agg c.toArray
theorem abuild_ok {t : TypeId} {k : List Value × List (Nat × Nat)} (ht : tparts P t = some k) (s : Sim G φ h w) {ps ps' : List (Nat × Value)} {v : Value} (hv : abuild k ps = some v) (hp : PRs φ ps ps') :
    OpOk G P (Instr.build t ps'.toArray) φ h w v h := by
  obtain ⟨z, pl⟩ := k
  unfold tparts at ht
  split at ht
  case h_2 => cases ht
  rename_i fs z' hfs hz
  split at ht
  case h_2 => cases ht
  rename_i pl' hpl
  cases ht
  obtain ⟨zv, hr, hzc, hd⟩ := tz_run hz w
  simp only [abuild, Option.map_eq_some_iff] at hv
  obtain ⟨r, hr2, rfl⟩ := hv
  have hzz : VRs φ z zv.cells.toList := by
    rw [← hzc]
    refine VRs.flat1_self ?_
    cases zv <;> first | exact hd | (simp [Value.cells]; exact hd)
  obtain ⟨R, a, b⟩ := afill_ok ps ps' z zv.cells r hr2 hzz hp
  have hm := places_run hpl w
  refine .still s (v' := .agg R) ?_ (.agg _ _ (by simpa using b))
  have hm2 : (fs.mapM (m := Sem) fun f => do pure (f.offset, ← sizeOf f.type)).run P w = .ok pl.toArray w := by
    rw [Array.mapM_eq_mapM_toList, run_map', hm]
    rfl
  have a' : Instr.fill (fun x => pl.toArray[x]?) zv.cells ps' = some R := by
    rw [← a]; congr 1; funext x; simp
  simp only [Instr.build, Sem.run_bind, hr, Result.andThen_ok, run_underlying hfs, hm2]
  rw [a']; rfl

def abuildSlice (n len : Nat) (z : List Value) (parts : List (Nat × Value)) (h : Heap) : Option (Value × Heap) :=
  if len * n ≤ 4096 then (afill (fun i => some (i * n, n)) (List.replicate len z).flatten parts).map fun c => (.slice (some ⟨h.length, 0, none⟩) len len, h ++ [.cells c n none true]) else none
theorem flatten_get (z : List Value) : ∀ (len j : Nat), j < len * z.length → ((List.replicate len z).flatten)[j]? = z[j % z.length]? := by
  intro len
  induction len with
  | zero => intro j h; omega
  | succ len ih =>
    intro j h
    rw [List.replicate_succ, List.flatten_cons]
    by_cases hj : j < z.length
    · rw [List.getElem?_append_left hj, Nat.mod_eq_of_lt hj]
    · rw [List.getElem?_append_right (by omega), ih _ (by rw [Nat.succ_mul] at h; omega)]
      rw [Nat.mod_eq_sub_mod (a := j) (by omega)]
theorem flatten_length (z : List Value) (len : Nat) : ((List.replicate len z).flatten).length = len * z.length := by
  induction len with
  | zero => simp
  | succ len ih => rw [List.replicate_succ, List.flatten_cons, List.length_append, ih, Nat.succ_mul]; omega
theorem zeros_eq (Z : Array Value) (len : Nat) : ((Array.range (len * Z.size)).map fun i => Z[i % Z.size]!).toList = (List.replicate len Z.toList).flatten := by
  apply List.ext_getElem?
  intro j
  by_cases hj : j < len * Z.size
  · rw [flatten_get _ _ _ (by simpa using hj)]
    have hz : 0 < Z.size := by
      apply Classical.byContradiction; intro h0
      have : Z.size = 0 := by omega
      rw [this] at hj; omega
    have hm : j % Z.size < Z.size := Nat.mod_lt _ hz
    rw [Array.getElem?_toList, Array.getElem?_map]
    simp only [Array.length_toList, Array.getElem?_toList]
    rw [Array.getElem?_range]
    simp [hj, hm, getElem!_pos]
  · rw [List.getElem?_eq_none (by simp; omega), List.getElem?_eq_none (by rw [flatten_length]; simp; omega)]
/-- An element type: size in cells, bytes, the zero's cells. -/
def telem (P : Program) (e : TypeId) : Option (Nat × Nat × List Value) :=
  match P.info? e, tz P e with
  | some i, some z => if z.length = i.size ∧ (tin P e).isSome then some (i.size, i.bytes, z) else none
  | _, _ => none
/-- A slice type's element. -/
def tslice (P : Program) (t : TypeId) : Option (Nat × Nat × List Value) :=
  match P.underlying t with
  | some (.slice e) => telem P e
  | _ => none
theorem telem_run {e : TypeId} {n b : Nat} {z : List Value} (h : telem P e = some (n, b, z)) (w : World) :
    (sizeOf e).run P w = .ok n w ∧ (∃ i, P.info? e = some i ∧ i.bytes = b ∧ i.size = n) ∧ (∃ v, (zeroValue e).run P w = .ok v w ∧ v.cells.toList = z ∧ deepFlat v = true) ∧ z.length = n ∧ z.all flat1 = true := by
  unfold telem at h
  split at h
  case h_2 => cases h
  rename_i i z' hi hz
  split at h
  case isFalse => cases h
  rename_i hn
  cases h
  obtain ⟨v, hr, hzc, hd⟩ := tz_run hz w
  refine ⟨?_, ⟨i, hi, rfl, rfl⟩, ⟨v, hr, hzc, hd⟩, hn.1, ?_⟩
  · simp [sizeOf, typeInfo, Sem.run_bind, hi]
  · rw [← hzc]; cases v <;> first | exact hd | (simp [Value.cells]; exact hd)
theorem tslice_run {t : TypeId} {k : Nat × Nat × List Value} (h : tslice P t = some k) : ∃ e, P.underlying t = some (.slice e) ∧ telem P e = some k := by
  unfold tslice at h
  split at h
  · exact ⟨_, by assumption, h⟩
  · cases h
theorem abuildSlice_ok {t : TypeId} {n b : Nat} {z : List Value} (ht : tslice P t = some (n, b, z)) (s : Sim G φ h w) {len : Nat} {ps ps' : List (Nat × Value)} {v : Value} {h' : Heap} (hv : abuildSlice n len z ps h = some (v, h')) (hp : PRs φ ps ps') :
    OpOk G P (Instr.buildSlice t len ps'.toArray) φ h w v h' := by
  obtain ⟨e, h1, h2⟩ := tslice_run ht
  obtain ⟨q1, ⟨i, qi, qb, qn⟩, ⟨zv, q2, q3, q4⟩, q5, q6⟩ := telem_run h2 w
  unfold abuildSlice at hv
  split at hv
  case isFalse => cases hv
  rename_i hle
  simp only [Option.map_eq_some_iff] at hv
  obtain ⟨c, hc, heq⟩ := hv
  cases heq
  have hzs : zv.cells.size = n := by rw [← q5, ← q3]; simp
  have hzz : VRs φ ((List.replicate len z).flatten) ((Array.range (len * n)).map fun i => zv.cells[i % zv.cells.size]!).toList := by
    rw [← hzs, zeros_eq, q3]
    refine VRs.flat1_self ?_
    rw [List.all_eq_true] at q6 ⊢
    intro x hx
    rw [List.mem_flatten] at hx
    obtain ⟨l, hl, hx⟩ := hx
    rw [List.mem_replicate] at hl
    rw [hl.2] at hx
    exact q6 x hx
  obtain ⟨R, a, r⟩ := afill_ok ps ps' _ _ c hc hzz hp
  obtain ⟨φ', -, p⟩ := anew_ok s n c R e r
  have hlen := r.length
  refine ⟨.slice (some ⟨w.heap.size, 0, none⟩) len len, w.alloc (.cells R e (0, 0)), _, ?_, ?_, post_cells s c R e n none (fun _ e => by cases e) (by simp at hlen; omega) fun j v hj => ?_⟩
  · by_cases h0 : len * n = 0
    · simp only [Instr.buildSlice, Sem.run_bind, run_underlying h1, q1, Result.andThen_ok]
      rw [if_neg (by omega)]
      have a0 : Instr.fill (fun i => some (i * n, n)) ((Array.range (len * n)).map fun i => (#[] : Array Value)[i % (#[] : Array Value).size]!) ps' = some R := by
        rw [← a]; congr 1; rw [h0]; simp
      simp only [h0, if_true, Sem.run_bind, Sem.run_pure, Result.andThen_ok] at a0 ⊢
      rw [a0]; rfl
    · simp only [Instr.buildSlice, Sem.run_bind, run_underlying h1, q1, Result.andThen_ok]
      rw [if_neg (by omega)]
      simp only [h0, if_false, Sem.run_bind, q2, Result.andThen_ok, Sem.run_pure]
      rw [a]; rfl
  · refine VR.slice _ 0 _ _ _ _ _ (Emb.upd_same _ _ _) (Nat.le_refl _) (.inl rfl) (.inr ⟨by simp, .inr ?_⟩)
    have hcl : c.length = len * n := by
      have : ∀ (ps : List (Nat × Value)) (c r : List Value), afill (fun i => some (i * n, n)) c ps = some r → r.length = c.length := by
        intro ps
        induction ps with
        | nil => intro c r h; cases h; rfl
        | cons p ps ih =>
          intro c r h
          obtain ⟨i, v⟩ := p
          simp only [afill] at h
          split at h
          · cases h
          split at h
          · cases h
          · rw [ih _ _ h, aput_length]
      rw [this _ _ _ hc, flatten_length, q5]
    simp only [Array.length_toList] at hlen
    simp; omega
  · obtain ⟨v', a, b⟩ := r.get hj
    exact ⟨v', by rw [Array.getElem?_toList] at a; exact a, b⟩

/-! ### cutting -/
def abnd (v : Value) (y : Nat) : Option Nat :=
  match v with
  | .int _ i => if 0 ≤ i ∧ i ≤ y then some i.toNat else none
  | _ => none
theorem abnd_run {v v' : Value} {y y' l : Nat} (h : abnd v y = some l) (hv : VR φ v v') (hy : y ≤ y') (code : BoundsCode) (w : World) : (Instr.sliceBound v' y' code).run P w = .ok l w ∧ l ≤ y := by
  unfold abnd at h
  split at h
  case h_2 => cases h
  split at h
  case isFalse => cases h
  rename_i k i hb
  cases h
  have := hv.int_inv; subst this
  refine ⟨?_, by omega⟩
  simp only [Instr.sliceBound, asIntOf, Sem.run_bind, Sem.run_pure, Result.andThen_ok]
  rw [if_pos ⟨hb.1, by omega⟩]; rfl

def abnds (len cap : Nat) (lo hi mx : Option Value) : Option (Nat × Nat × Nat) :=
  match mx with
  | some v => match abnd v cap with
    | some m => match hi with
      | some u => match abnd u m with
        | some h => match lo with
          | some x => (abnd x h).map fun l => (l, h, m)
          | none => some (0, h, m)
        | none => none
      | none => none
    | none => none
  | none => match (match hi with | some u => abnd u cap | none => some len) with
    | some h => match lo with
      | some x => (abnd x h).map fun l => (l, h, cap)
      | none => some (0, h, cap)
    | none => none
inductive OVR (φ : Emb) : Option Value → Option Value → Prop
  | none : OVR φ none none
  | some (v v' : Value) (h : VR φ v v') : OVR φ (some v) (some v')
/-- The bounds; without a max the machine's capacity may be more than what is known of it. -/
theorem abnds_run {len cap cap' l h m : Nat} {lo hi mx lo' hi' mx' : Option Value} (hb : abnds len cap lo hi mx = some (l, h, m)) (hlo : OVR φ lo lo') (hhi : OVR φ hi hi') (hmx : OVR φ mx mx') (hlc : len ≤ cap) (hc : cap ≤ cap') (isS : Bool) (w : World) :
    (Instr.sliceBounds isS len cap' lo' hi' mx').run P w = .ok (l, h, if mx.isSome then m else cap') w ∧ l ≤ h ∧ h ≤ m ∧ m ≤ cap ∧ (mx = none → m = cap) := by
  unfold abnds at hb
  cases hmx with
  | some vm vm' rm =>
    simp only at hb
    split at hb
    case h_2 => cases hb
    rename_i m1 hm
    split at hb
    case h_2 => cases hb
    rename_i u
    cases hhi with
    | some _ vh rh =>
    split at hb
    case h_2 => cases hb
    rename_i h1 hh
    obtain ⟨a1, b1⟩ := abnd_run (P := P) hm rm hc (if isS then .slice3Acap else .slice3Alen) w
    obtain ⟨a2, b2⟩ := abnd_run (P := P) hh rh (Nat.le_refl _) .slice3B w
    cases hlo with
    | none =>
      cases hb
      refine ⟨?_, by omega, by omega, by omega, fun e => by cases e⟩
      simp [Instr.sliceBounds, Sem.run_bind, a1, a2]
    | some x x' rx =>
      simp only [Option.map_eq_some_iff] at hb
      obtain ⟨l1, hl, e⟩ := hb
      cases e
      obtain ⟨a3, b3⟩ := abnd_run (P := P) hl rx (Nat.le_refl _) .slice3C w
      refine ⟨?_, by omega, by omega, by omega, fun e => by cases e⟩
      simp [Instr.sliceBounds, Sem.run_bind, a1, a2, a3]
  | none =>
    simp only at hb
    split at hb
    case h_2 => cases hb
    rename_i h1 hh
    have key : ((match hi', (none : Option Value) with
        | some v, some _ => Instr.sliceBound v cap' .slice3B
        | some v, none => Instr.sliceBound v cap' (if isS then .sliceAcap else .sliceAlen)
        | none, none => pure len
        | none, some _ => stuck "Slice: max without high") : Sem Nat).run P w = .ok h1 w ∧ h1 ≤ cap := by
      cases hhi with
      | none => cases hh; exact ⟨rfl, hlc⟩
      | some u u' ru =>
        obtain ⟨a, b⟩ := abnd_run (P := P) hh ru hc (if isS then .sliceAcap else .sliceAlen) w
        exact ⟨a, b⟩
    obtain ⟨k1, k2⟩ := key
    cases hlo with
    | none =>
      cases hb
      refine ⟨?_, by omega, by omega, by omega, fun _ => rfl⟩
      simp only [Instr.sliceBounds, Sem.run_bind, Sem.run_pure, Result.andThen_ok]
      cases hhi <;> simp_all
    | some x x' rx =>
      simp only [Option.map_eq_some_iff] at hb
      obtain ⟨l1, hl, e⟩ := hb
      cases e
      obtain ⟨a3, b3⟩ := abnd_run (P := P) hl rx (Nat.le_refl _) .sliceB w
      refine ⟨?_, by omega, by omega, by omega, fun _ => rfl⟩
      simp only [Instr.sliceBounds, Sem.run_bind, Sem.run_pure, Result.andThen_ok]
      cases hhi <;> simp_all

def aslice (P : Program) (t : TypeId) (x : Value) (lo hi mx : Option Value) (h : Heap) : Option Value :=
  match x with
  | .string s => if isString P t ∧ mx = none then (abnds s.size s.size lo hi none).map fun k => .string (s.extract k.1 k.2.1) else none
  | .slice (some ⟨id, o, none⟩) n c =>
    match tix P t with
    | some (none, _, sz) =>
      match h[id]? with
      | some (.cells _ es _ rw) =>
        if (es = sz ∨ rw = false) ∧ (c = unk ∨ n ≤ c) then
          match abnds n (if c = unk then n else c) lo hi mx with
          | some (l, u, m) => some (.slice (some ⟨id, o + l * sz, none⟩) (u - l) (if c = unk ∧ mx.isNone then unk else m - l))
          | none => none
        else none
      | _ => none
    | _ => none
  | .slice none 0 0 =>
    match tix P t with
    | some (none, _, _) => (abnds 0 0 lo hi mx).map fun _ => .slice none 0 0
    | _ => none
  | _ => none

end
end Go.Proofs.Ytnhnelhcipafeaa.Ab
