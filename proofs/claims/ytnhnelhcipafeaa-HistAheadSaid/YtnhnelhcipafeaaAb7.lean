/- Appending and copying. -/
import Derived.Test.YtnhnelhcipafeaaAb6
set_option linter.unusedSimpArgs false
set_option linter.unusedVariables false
namespace Go.Proofs.Ytnhnelhcipafeaa.Ab
open Go Go.RowKit

section
variable {G : Nat} {P : Program} {φ : Emb} {h : Heap} {w : World}

/-! ### giving up objects -/
def killAll (cls : Option Nat) (o : Nat) (h : Heap) : Heap :=
  match cls with
  | none => h
  | some k => h.map fun x => x.hit k o
theorem killAll_length (cls : Option Nat) (o : Nat) (h : Heap) : (killAll cls o h).length = h.length := by cases cls <;> simp [killAll]
theorem killAll_get (cls : Option Nat) (o : Nat) (h : Heap) (i : Nat) (x : AObj) (e : (killAll cls o h)[i]? = some x) :
    ∃ y, h[i]? = some y ∧ ((x = y ∧ ∀ k c es rw, cls = some k → x = .cells c es (some k) rw → c.length ≤ o) ∨ x = .dead) := by
  cases cls with
  | none => exact ⟨x, e, .inl ⟨rfl, fun _ _ _ _ hk => by cases hk⟩⟩
  | some k =>
    simp only [killAll, List.getElem?_map, Option.map_eq_some_iff] at e
    obtain ⟨y, hy, rfl⟩ := e
    refine ⟨y, hy, ?_⟩
    rcases hit_cases k o y with e | e
    · left
      refine ⟨e, ?_⟩
      intro k' c es rw hk hx
      cases hk
      rw [hx] at e
      rw [← e] at hx
      simp only [AObj.hit] at hx
      apply Classical.byContradiction; intro hlt
      rw [if_pos ⟨trivial, by omega⟩] at hx
      cases hx
    · exact .inr e
theorem Kin.dead_left {l l' : Loc} (o' : AObj) : Kin .dead l o' l' := trivial
theorem Kin.dead_right {l l' : Loc} (o : AObj) : Kin o l .dead l' := by
  cases o with
  | dead => exact trivial
  | map => exact trivial
  | iter => exact trivial
  | cells c es k rw => cases rw <;> exact trivial
theorem post_kill (s : Sim G φ h w) (cls : Option Nat) (o : Nat) : Post G φ h w φ (killAll cls o h) w := by
  refine ⟨Ext.refl _, ⟨?_, ?_, s.lt, fun i hi => s.dom i (by rw [killAll_length] at hi; exact hi), s.glob, ?_⟩, Frame.refl _ _ _, fun _ _ e => .inl e, by rw [killAll_length]; exact Nat.le_refl _, ?_⟩
  · intro i x e
    obtain ⟨y, hy, ⟨rfl, -⟩ | rfl⟩ := killAll_get _ _ _ _ _ e
    · exact s.objs i _ hy
    · exact s.get_some (by
        apply Classical.byContradiction; intro hn
        rw [List.getElem?_eq_none (by omega)] at hy; cases hy)
  · intro i i' x x' l l' e e' hne el el' hb
    obtain ⟨y, hy, ⟨rfl, -⟩ | rfl⟩ := killAll_get _ _ _ _ _ e
    · obtain ⟨y', hy', ⟨rfl, -⟩ | rfl⟩ := killAll_get _ _ _ _ _ e'
      · exact s.sep _ _ _ _ _ _ hy hy' hne el el' hb
      · exact Kin.dead_right _
    · exact Kin.dead_left _
  · intro i c es k rw e
    obtain ⟨y, hy, ⟨rfl, -⟩ | hd⟩ := killAll_get _ _ _ _ _ e
    · exact s.wf i _ _ _ _ hy
    · cases hd
  · intro i x hi e r
    obtain ⟨y, hy, ⟨rfl, -⟩ | rfl⟩ := killAll_get _ _ _ _ _ e
    · exact ⟨_, hy, r⟩
    · cases r

/-! ### one more name for the begin of a row -/
theorem post_share (s : Sim G φ h w) {id es k n : Nat} {c : List Value} {l : Loc} (e : h[id]? = some (.cells c es (some k) true)) (hl : φ id = some l) (hn : n ≤ c.length) :
    Post G φ h w (φ.upd h.length l) (h ++ [.cells (c.take n) es (some k) true]) w := by
  have hno : φ h.length = none := s.dom _ (Nat.le_refl _)
  have hx : Ext φ (φ.upd h.length l) := Ext.upd l hno
  have hget : ∀ i (x : AObj), (h ++ [AObj.cells (c.take n) es (some k) true])[i]? = some x → (i < h.length ∧ h[i]? = some x) ∨ (i = h.length ∧ x = .cells (c.take n) es (some k) true) := by
    intro i x hi
    by_cases hlt : i < h.length
    · rw [List.getElem?_append_left hlt] at hi; exact .inl ⟨hlt, hi⟩
    · rw [List.getElem?_append_right (by omega)] at hi
      have : i - h.length = 0 := by
        apply Classical.byContradiction; intro h0
        rw [List.getElem?_eq_none (by simp; omega)] at hi; cases hi
      rw [this] at hi; simp at hi
      exact .inr ⟨by omega, hi.symm⟩
  have hidlt : id < h.length := s.lt_len hl
  obtain ⟨q1, q2, C, t, fr, q3, q4, q5⟩ := s.cells e hl
  refine ⟨hx, ⟨?_, ?_, ?_, ?_, ?_, ?_⟩, Frame.refl _ _ _, ?_, by simp, ?_⟩
  · intro i x hi
    rcases hget i x hi with ⟨hlt, ei⟩ | ⟨rfl, rfl⟩
    · exact (s.objs i x ei).mono hx fun _ _ => rfl
    · refine ⟨l, C, t, fr, Emb.upd_same _ _ _, q1, q2, q3, fun _ => ⟨(q4 rfl).1, (q4 rfl).2.1, by have := (q4 rfl).2.2; simp; omega⟩, fun j v hj => ?_⟩
      have hjn : j < n := by
        apply Classical.byContradiction; intro hh
        rw [List.getElem?_eq_none (by simp; omega)] at hj; cases hj
      rw [List.getElem?_take_of_lt hjn] at hj
      obtain ⟨v', a, b⟩ := q5 j v hj
      exact ⟨v', a, b.mono hx⟩
  · intro i i' x x' li li' hi hi' hne el el' hb
    rcases hget i x hi with ⟨hlt, ei⟩ | ⟨rfl, rfl⟩ <;> rcases hget i' x' hi' with ⟨hlt', ei'⟩ | ⟨rfl, rfl⟩
    · rw [Emb.upd_ne _ _ (by omega)] at el el'
      exact s.sep i i' x x' li li' ei ei' hne el el' hb
    · rw [Emb.upd_same] at el'; rw [Emb.upd_ne _ _ (by omega)] at el
      cases el'
      by_cases hid : i = id
      · subst hid
        rw [hl] at el; cases el
        rw [e] at ei; cases ei
        exact ⟨rfl, rfl, rfl⟩
      · cases x with
        | dead => exact trivial
        | map es2 ck =>
          obtain ⟨l2, es', e2, hm, _⟩ := s.objs i _ ei
          rw [el] at e2; cases e2
          rw [hb, q3] at hm; cases hm
        | iter m2 s2 sn2 st2 =>
          obtain ⟨l2, m', e2, _, hm, _⟩ := s.objs i _ ei
          rw [el] at e2; cases e2
          rw [hb, q3] at hm; cases hm
        | cells c2 es2 k2 rw2 =>
          cases rw2 with
          | false => exact trivial
          | true =>
            obtain ⟨g1, g2, g3⟩ := s.sep i id _ _ li l ei e hid el hl hb
            exact ⟨g1, g2, g3⟩
    · rw [Emb.upd_same] at el; rw [Emb.upd_ne _ _ (by omega)] at el'
      cases el
      by_cases hid : i' = id
      · subst hid
        rw [hl] at el'; cases el'
        rw [e] at ei'; cases ei'
        exact ⟨rfl, rfl, rfl⟩
      · have := s.sep id i' _ _ l li' e ei' (fun q => hid q.symm) hl el' hb
        cases x' with
        | dead => exact trivial
        | map => exact trivial
        | iter => exact trivial
        | cells c2 es2 k2 rw2 => exact this
    · exact absurd rfl hne
  · intro i l' el
    by_cases hi : i = h.length
    · subst hi; rw [Emb.upd_same] at el; cases el; exact s.lt _ _ hl
    · rw [Emb.upd_ne _ _ hi] at el; exact s.lt _ _ el
  · intro i hi
    simp at hi
    rw [Emb.upd_ne _ _ (by omega)]; exact s.dom i (by omega)
  · intro g hg
    obtain ⟨l', el, k⟩ := s.glob g hg
    exact ⟨l', hx _ _ el, k⟩
  · intro i c2 es2 k2 rw2 ei
    rcases hget i _ ei with ⟨hlt, ei2⟩ | ⟨rfl, ei2⟩
    · exact s.wf i _ _ _ _ ei2
    · cases ei2
      have := s.wf id _ _ _ _ e
      omega
  · intro i l' el
    by_cases hi : i = h.length
    · subst hi; rw [Emb.upd_same] at el; cases el; exact .inr ⟨Nat.le_refl _, .inr ⟨id, _, l, e, rfl, hl, rfl⟩⟩
    · rw [Emb.upd_ne _ _ hi] at el; exact .inl el
  · intro i o' hi ei r
    rw [List.getElem?_append_left hi] at ei
    exact ⟨o', ei, r⟩

/-- The last object, grown by one cell that nobody else sees. -/
theorem post_push {c : List Value} {es k : Nat} {l : Loc} (s : Sim G φ (h ++ [.cells c es (some k) true]) w) (hl : φ h.length = some l) (hroom : c.length < l.sz)
    (hk : ∀ (i : Nat) (c2 : List Value) (es2 : Nat) (rw2 : Bool), h[i]? = some (AObj.cells c2 es2 (some k) rw2) → c2.length ≤ c.length) {v v' : Value} (hv : VR φ v v') (hok : okCell v = true) :
    (∃ u, w.cell? ⟨l.b, l.sh + c.length, none⟩ = some u) ∧ w.frozen? ⟨l.b, l.sh + c.length, none⟩ = false ∧ v'.oneCell' = true ∧
      Post G φ (h ++ [.cells c es (some k) true]) w φ (h ++ [.cells (c ++ [v]) es (some k) true]) (w.setCell ⟨l.b, l.sh + c.length, none⟩ v') := by
  have e : (h ++ [AObj.cells c es (some k) true])[h.length]? = some (.cells c es (some k) true) := by simp
  obtain ⟨h1, h2, C, t, fr, h3, h4, h5⟩ := s.cells e hl
  obtain ⟨rfl, h4b, h4c⟩ := h4 rfl
  have hget : ∀ (y : AObj) i (x : AObj), (h ++ [y])[i]? = some x → (i < h.length ∧ h[i]? = some x) ∨ (i = h.length ∧ x = y) := by
    intro y i x hi
    by_cases hlt : i < h.length
    · rw [List.getElem?_append_left hlt] at hi; exact .inl ⟨hlt, hi⟩
    · rw [List.getElem?_append_right (by omega)] at hi
      have : i - h.length = 0 := by
        apply Classical.byContradiction; intro h0
        rw [List.getElem?_eq_none (by simp; omega)] at hi; cases hi
      rw [this] at hi; simp at hi
      exact .inr ⟨by omega, hi.symm⟩
  have hold : ∀ i (x : AObj), i < h.length → h[i]? = some x → (h ++ [AObj.cells c es (some k) true])[i]? = some x := fun i x hi hx => by rw [List.getElem?_append_left hi]; exact hx
  refine ⟨⟨_, (cell_of h3).trans (Array.getElem?_eq_getElem (by omega))⟩, frozen_of h3, hv.oneCell hok, ⟨Ext.refl _, ⟨?_, ?_, ?_, ?_, s.glob, ?_⟩, ⟨rfl, rfl, rfl, by rw [World.size_set]; omega, ?_⟩, fun _ _ e => .inl e, by simp, ?_⟩⟩
  · intro i x hi
    rcases hget _ i x hi with ⟨hlt, ei⟩ | ⟨rfl, rfl⟩
    · have hrel := s.objs i x (hold i x hlt ei)
      obtain ⟨l', hl'⟩ := s.get_some (id := i) (by simp; omega)
      by_cases hb : l'.b = l.b
      · have hkin := s.sep h.length i _ _ l l' e (hold i x hlt ei) (by omega) hl hl' hb.symm
        cases x with
        | dead => exact ⟨l', hl'⟩
        | map es2 ck =>
          obtain ⟨l2, es', e2, hm, _⟩ := hrel
          rw [hl'] at e2; cases e2
          rw [hb, h3] at hm; cases hm
        | iter m2 s2 sn2 st2 =>
          obtain ⟨l2, m', e2, _, hm, _⟩ := hrel
          rw [hl'] at e2; cases e2
          rw [hb, h3] at hm; cases hm
        | cells c2 es2 k2 rw2 =>
          obtain ⟨hk1, hk2, hk3⟩ := hkin
          obtain ⟨l2, C2, t2, fr2, e2, g1, g2, g3, g4, g5⟩ := hrel
          rw [hl'] at e2; cases e2
          rw [hb, h3] at g3; cases g3
          subst hk1
          have hlen := hk i c2 es2 rw2 ei
          refine ⟨l', C.setIfInBounds (l.sh + c.length) v', t, (0, 0), hl', g1, g2, by rw [hb]; exact World.heap_set_same w h3 _ _, fun hr => ⟨rfl, by simpa using (g4 hr).2.1, (g4 hr).2.2⟩, fun j u hj => ?_⟩
          have hj2 : j < c2.length := by
            apply Classical.byContradiction; intro hn
            rw [List.getElem?_eq_none (by omega)] at hj; cases hj
          obtain ⟨u', a, b⟩ := g5 j u hj
          exact ⟨u', by rw [Array.getElem?_setIfInBounds]; rw [if_neg (by omega)]; exact a, b⟩
      · exact hrel.mono (Ext.refl _) fun l2 e2 => by
          rw [hl'] at e2; cases e2
          exact Below.heap_setCell w _ _ _ hb
    · refine ⟨l, C.setIfInBounds (l.sh + c.length) v', t, (0, 0), hl, h1, h2, World.heap_set_same w h3 _ _, fun _ => ⟨rfl, by simpa using h4b, by simp; omega⟩, fun j u hj => ?_⟩
      by_cases hj2 : j < c.length
      · rw [List.getElem?_append_left hj2] at hj
        obtain ⟨u', a, b⟩ := h5 j u hj
        exact ⟨u', by rw [Array.getElem?_setIfInBounds]; rw [if_neg (by omega)]; exact a, b⟩
      · rw [List.getElem?_append_right (by omega)] at hj
        have h0 : j - c.length = 0 := by
          apply Classical.byContradiction; intro h0
          rw [List.getElem?_eq_none (by simp; omega)] at hj; cases hj
        rw [h0] at hj; simp at hj; subst hj
        have : j = c.length := by omega
        subst this
        exact ⟨v', by rw [Array.getElem?_setIfInBounds]; simp; omega, hv⟩
  · intro i i' x x' li li' hi hi' hne el el' hb
    rcases hget _ i x hi with ⟨hlt, ei⟩ | ⟨rfl, rfl⟩ <;> rcases hget _ i' x' hi' with ⟨hlt', ei'⟩ | ⟨rfl, rfl⟩
    · exact s.sep i i' x x' li li' (hold _ _ hlt ei) (hold _ _ hlt' ei') hne el el' hb
    · have := s.sep i h.length x _ li li' (hold _ _ hlt ei) e hne el el' hb
      cases x with
      | dead => exact trivial
      | map => exact trivial
      | iter => exact trivial
      | cells c2 es2 k2 rw2 => cases rw2 <;> exact this
    · have := s.sep h.length i' _ x' li li' e (hold _ _ hlt' ei') hne el el' hb
      cases x' <;> exact this
    · exact absurd rfl hne
  · intro i l' el; rw [World.size_set]; exact s.lt _ _ el
  · intro i hi; exact s.dom i (by simpa using hi)
  · intro i c2 es2 k2 rw2 ei
    rcases hget _ i _ ei with ⟨hlt, ei2⟩ | ⟨rfl, ei2⟩
    · exact s.wf i _ _ _ _ (hold _ _ hlt ei2)
    · cases ei2
      exact s.wf _ _ _ _ _ e
  · intro b hb hk
    exact Below.heap_setCell w _ _ _ (fun q => hk h.length _ l e rfl hl q.symm)
  · intro i o' hi ei r
    rcases hget _ i o' ei with ⟨hlt, ei⟩ | ⟨rfl, rfl⟩
    · exact ⟨o', hold _ _ hlt ei, r⟩
    · exact ⟨_, e, rfl⟩

theorem pushes_ok {es k : Nat} {l : Loc} (hl : φ h.length = some l) : ∀ (vs vs' : List Value) (c : List Value) (w : World) (o i : Nat), Sim G φ (h ++ [.cells c es (some k) true]) w → c.length = o + i → c.length + vs.length ≤ l.sz →
    (∀ (i : Nat) (c2 : List Value) (es2 : Nat) (rw2 : Bool), h[i]? = some (AObj.cells c2 es2 (some k) rw2) → c2.length ≤ c.length) → VRs φ vs vs' → vs.all okCell = true →
    ∃ w', (storeCells ⟨l.b, l.sh + o, none⟩ vs' i).run P w = .ok () w' ∧ Post G φ (h ++ [.cells c es (some k) true]) w φ (h ++ [.cells (c ++ vs) es (some k) true]) w' := by
  intro vs
  induction vs with
  | nil =>
    intro vs' c w o i s hc hroom hk hv hok
    cases hv
    exact ⟨w, rfl, by rw [List.append_nil]; exact Post.refl s⟩
  | cons v vs ih =>
    intro vs' c w o i s hc hroom hk hv hok
    cases hv with
    | cons _ v' _ vs' hx hr =>
    simp only [List.all_cons, Bool.and_eq_true] at hok
    simp only [List.length_cons] at hroom
    obtain ⟨⟨u, g1⟩, g2, g3, p⟩ := post_push s hl (by omega) hk hx hok.1
    obtain ⟨w', r, q⟩ := ih vs' (c ++ [v]) _ o (i + 1) p.sim (by simp; omega) (by simp; omega) (fun i c2 es2 rw2 e => by have := hk i c2 es2 rw2 e; simp; omega) hr hok.2
    refine ⟨w', ?_, ?_⟩
    · simp only [storeCells, Sem.run_bind, add_none]
      rw [show l.sh + o + i = l.sh + c.length from by omega, run_store _ _ _ _ _ g3, g1, g2]
      simpa using r
    · have := Post.trans s p q
      rwa [List.append_assoc] at this

/-! ### the cells of a source -/
def asource (n : Nat) (x : Value) (h : Heap) : Option (List Value × Nat) :=
  match x with
  | .slice none 0 0 => some ([], 0)
  | .slice (some ⟨id, o, none⟩) m _ =>
    match h[id]? with
    | some (.cells c _ _ _) => if o + m * n ≤ c.length then some ((c.drop o).take (m * n), m) else none
    | _ => none
  | .string s => if n = 1 then some (s.data.toList.map fun b => .int .u8 b.toNat, s.size) else none
  | _ => none
theorem asource_ok (s : Sim G φ h w) {n m : Nat} {x x' : Value} {cs : List Value} (hv : asource n x h = some (cs, m)) (hx : VR φ x x') :
    (Builtin.lenOf x').run P w = .ok m w ∧ cs.length = m * n ∧ ∀ k, k ≤ m → ∃ C, (Builtin.firstCells n k x').run P w = .ok C w ∧ VRs φ (cs.take (k * n)) C.toList := by
  unfold asource at hv
  split at hv
  · cases hv
    have := hx.flat_inv rfl; subst this
    exact ⟨rfl, by simp, fun k hk => ⟨#[], rfl, by simp; exact .nil⟩⟩
  · rename_i id o m' c'
    split at hv
    case h_2 => cases hv
    rename_i c es k rw e
    split at hv
    case isFalse => cases hv
    rename_i hle
    cases hv
    obtain ⟨a, c2, l, hl, rfl, hn, hc, ha⟩ := hx.slice_inv
    refine ⟨rfl, by simp; omega, fun j hj => ?_⟩
    by_cases h0 : j * n = 0
    · refine ⟨#[], ?_, by rw [h0]; simp; exact .nil⟩
      simp only [Builtin.firstCells, h0]
      rfl
    · have hj0 : j ≠ 0 := fun e => h0 (by rw [e]; simp)
      obtain ⟨rfl, -⟩ := ha.resolve_left (by omega)
      have hjn : j * n ≤ m * n := Nat.mul_le_mul_right _ hj
      obtain ⟨C, r, q⟩ := run_loadCells' (P := P) s e hl (o := o) (n := j * n) (by omega)
      refine ⟨C, r, ?_⟩
      rw [List.take_take, Nat.min_eq_left hjn]
      exact q
  · rename_i s0
    split at hv
    case isFalse => cases hv
    rename_i hn1
    subst hn1
    cases hv
    have := hx.flat_inv rfl; subst this
    refine ⟨rfl, by simp, fun k hk => ⟨_, rfl, ?_⟩⟩
    have : ((s0.data.toList.map fun b => Value.int .u8 b.toNat).take (k * 1)) = ((s0.extract 0 k).data.map fun b => Value.int .u8 b.toNat).toList := by
      rw [Nat.mul_one, Array.toList_map, ByteArray.data_extract, ← List.map_take]
      simp [Array.toList_extract, List.extract_eq_take_drop]
    rw [this]
    refine VRs.flat1_self ?_
    rw [List.all_eq_true]
    intro x hx
    simp only [Array.toList_map, List.mem_map] at hx
    obtain ⟨b, -, rfl⟩ := hx
    rfl
  · cases hv

/-! ### append -/
def notInt (P : Program) (t : TypeId) : Bool := match P.underlying t with | some (.int _) => false | some _ => true | none => false
def aappend (k : Nat × Nat × List Value) (s x : Value) (h : Heap) : Option (Value × Heap) :=
  match asource k.1 x h with
  | none => none
  | some (cs, m) =>
    if k.2.1 ≤ 65536 then
      match s with
      | .slice none 0 0 =>
        if m = 0 then some (s, h)
        else if m ≤ 1073741824 then some (.slice (some ⟨h.length, 0, none⟩) m unk, h ++ [.cells cs k.1 (some h.length) true]) else none
      | .slice (some ⟨id, o, none⟩) sl c =>
        if m = 0 then some (s, h)
        else if sl + m ≤ 1073741824 then
          match h[id]? with
          | some (.cells c0 es cl rw) =>
            if o + sl * k.1 ≤ c0.length then
              if c = unk then
                match cl with
                | some q => if rw = true ∧ es = k.1 ∧ o = 0 ∧ cs.all okCell = true then
                    some (.slice (some ⟨h.length, 0, none⟩) (sl + m) unk, killAll (some q) (sl * k.1) h ++ [.cells (c0.take (sl * k.1) ++ cs) k.1 (some q) true]) else none
                | none => none
              else if sl + m ≤ c then
                if rw = true ∧ es = k.1 then (astores h id (o + sl * k.1) cs).map fun h' => (.slice (some ⟨id, o, none⟩) (sl + m) c, h') else none
              else some (.slice (some ⟨h.length, 0, none⟩) (sl + m) unk, h ++ [.cells ((c0.drop o).take (sl * k.1) ++ cs) k.1 (some h.length) true])
            else none
          | _ => none
        else none
      | _ => none
    else none

theorem growBy_le (newLen : Nat) : ∀ r c, c ≤ Builtin.growBy newLen r c ∧ Builtin.growBy newLen r c ≤ (c + 768) * 2 ^ r := by
  intro r
  induction r with
  | zero => intro c; simp [Builtin.growBy]
  | succ r ih =>
    intro c
    simp only [Builtin.growBy]
    split
    · have : 1 ≤ 2 ^ (r + 1) := Nat.one_le_two_pow
      refine ⟨Nat.le_refl _, ?_⟩
      calc c ≤ c + 768 := by omega
        _ = (c + 768) * 1 := by omega
        _ ≤ _ := Nat.mul_le_mul_left _ this
    · obtain ⟨a, b⟩ := ih (c + (c + 768) / 4)
      refine ⟨by omega, Nat.le_trans b ?_⟩
      rw [Nat.pow_succ, Nat.mul_comm (2 ^ r) 2, ← Nat.mul_assoc]
      exact Nat.mul_le_mul_right _ (by omega)
theorem growBy4 (newLen c : Nat) (h : c ≤ 1073741824) : Builtin.growBy newLen 4 c ≤ 4294967296 := by
  simp only [Builtin.growBy]
  repeat' split
  all_goals omega
theorem nextcap_le (need cap : Nat) (h1 : need ≤ 1073741824) (h2 : cap < need) : Builtin.nextslicecap need cap ≤ 4294967296 := by
  unfold Builtin.nextslicecap
  split
  · omega
  split
  · omega
  · exact growBy4 _ _ (by omega)

theorem Post.undraw {φ' : Emb} {h' : Heap} {w' : World} {d : Nat} (p : Post G φ h { w with drawn := d } φ' h' w') : Post G φ h w φ' h' w' :=
  ⟨p.ext, p.sim, ⟨p.frame.os, p.frame.tape, p.frame.output, p.frame.size, p.frame.keep⟩, p.fresh, p.len, p.shrink⟩
theorem ORel.drawn {d id : Nat} {o : AObj} (r : ORel φ w id o) : ORel φ { w with drawn := d } id o := by
  cases o <;> exact r
theorem Sim.drawn (s : Sim G φ h w) (d : Nat) : Sim G φ h { w with drawn := d } :=
  ⟨fun i o e => (s.objs i o e).drawn, s.sep, s.lt, s.dom, s.glob, s.wf⟩

theorem notInt_run {t : TypeId} (h : notInt P t = true) : ∃ u : TypeDesc, P.underlying t = some u ∧ ∀ k, u ≠ .int k := by
  unfold notInt at h
  split at h
  · cases h
  · rename_i u hne hu; exact ⟨u, hu, fun k e => hne k e⟩
  · cases h
theorem append_fit {ts : Array TypeId} {ty t t2 e : TypeId} {args : Array Value} {x' : Value} {base : Option Addr} {sl cap n m : Nat} {C : Array Value} {w' : World}
    (h0 : ts[0]? = some t) (h1 : ts[1]? = some t2) (a0 : args[0]? = some (.slice base sl cap)) (a1 : args[1]? = some x') (ht : P.underlying t = some (.slice e)) (h2 : notInt P t2 = true)
    (hn : (sizeOf e).run P w = .ok n w) (hm : (Builtin.lenOf x').run P w = .ok m w) (hfit : sl + m ≤ cap) (hC : (Builtin.firstCells n m x').run P w = .ok C w)
    (hst : ((match base with | some a => storeCells (a.add (sl * n)) C.toList | none => pure ()) : Sem Unit).run P w = .ok () w') :
    (Builtin.append_ ts ty args).run P w = .ok (.slice base (sl + m) cap) w' := by
  obtain ⟨u, hu, hne⟩ := notInt_run h2
  have key : (Builtin.append_ ts ty args).run P w = (do
      let new ← Builtin.firstCells n m x'
      match base with | some a => storeCells (a.add (sl * n)) new.toList | none => pure ()
      pure (.slice base (sl + m) cap) : Sem Value).run P w := by
    cases u <;> first | exact absurd rfl (hne _) | skip
    all_goals
      simp only [Builtin.append_, h0, h1, a0, a1, Sem.run_bind, run_underlying ht, Result.andThen_ok, hn, run_underlying hu, Sem.run_pure, Bool.false_eq_true, if_false, hm, Bool.not_false, if_true, hfit, hC]
      cases base <;> simp only [Sem.run_bind, Sem.run_pure, Result.andThen_ok, hC]
  rw [key]
  simp only [Sem.run_bind, hC, Result.andThen_ok]
  cases base with
  | none => simp only [Sem.run_pure] at hst ⊢; cases hst; rfl
  | some a => simp only at hst ⊢; rw [Sem.run_bind, hst]; rfl
theorem append_grow {ts : Array TypeId} {ty t t2 e : TypeId} {args : Array Value} {x' : Value} {base : Option Addr} {sl cap n m : Nat} {C D : Array Value} {zv : Value} {i : TypeInfo}
    (h0 : ts[0]? = some t) (h1 : ts[1]? = some t2) (a0 : args[0]? = some (.slice base sl cap)) (a1 : args[1]? = some x') (ht : P.underlying t = some (.slice e)) (h2 : notInt P t2 = true)
    (hn : ∀ w, (sizeOf e).run P w = .ok n w) (hm : (Builtin.lenOf x').run P w = .ok m w) (hfit : ¬ sl + m ≤ cap) (hle : sl + m ≤ 1073741824)
    (hi : P.info? e = some i) (hb : i.bytes ≤ 65536) (hz : ∀ w, (zeroValue e).run P w = .ok zv w)
    (hC : (Builtin.firstCells n m x').run P { w with drawn := w.drawn + 1 } = .ok C { w with drawn := w.drawn + 1 })
    (hD : (Builtin.firstCells n sl (.slice base sl cap)).run P { w with drawn := w.drawn + 1 } = .ok D { w with drawn := w.drawn + 1 }) :
    ∃ c, sl + m ≤ c ∧ (Builtin.append_ ts ty args).run P w = .ok (.slice (some ⟨w.heap.size, 0, none⟩) (sl + m) c) (({ w with drawn := w.drawn + 1 } : World).alloc (.cells (D ++ C ++ Builtin.zeroCells zv.cells (c - (sl + m))) e (0, 0))) := by
  obtain ⟨u, hu, hne⟩ := notInt_run h2
  refine ⟨sl + m + w.tape w.drawn (.appendCap (sl + m) cap e) % (2 ^ 63 - (sl + m)), by omega, ?_⟩
  have hbig : ¬ (((sl + m : Nat) : Int) > IntKind.i64.max ∧ (i.bytes = 0)) := by
    have : IntKind.i64.max = 9223372036854775807 := by decide
    rw [this]; omega
  have hcapn : ¬ Builtin.nextslicecap (sl + m) cap * i.bytes > 2 ^ 48 := by
    have h1 := nextcap_le (sl + m) cap hle (by omega)
    have : Builtin.nextslicecap (sl + m) cap * i.bytes ≤ 4294967296 * 65536 := Nat.mul_le_mul h1 hb
    omega
  have hti : ∀ w, (typeInfo e).run P w = .ok i w := fun w => by simp [typeInfo, Sem.run_bind, hi]
  have hask : ∀ (k : Nat) (w : World), (askRoom k).run P w = .ok () w := fun k w => by unfold askRoom; split <;> rfl
  have hch : (choose (.appendCap (sl + m) cap e)).run P w = .ok (sl + m + w.tape w.drawn (.appendCap (sl + m) cap e) % (2 ^ 63 - (sl + m))) { w with drawn := w.drawn + 1 } := by
    simp [choose, Sem.run, Question.forced, Question.cut]
  cases u <;> first | exact absurd rfl (hne _) | skip
  all_goals
    simp only [Builtin.append_, h0, h1, a0, a1, Sem.run_bind, run_underlying ht, Result.andThen_ok, hn, run_underlying hu, Sem.run_pure, Bool.false_eq_true, if_false, hm, Bool.not_false, if_true, hfit, false_or, hti, hbig, hcapn, hch, hask, hD, hC, hz]
    rfl

theorem aappend_ok {ts : Array TypeId} {ty t t2 : TypeId} {k : Nat × Nat × List Value} (h0 : ts[0]? = some t) (h1 : ts[1]? = some t2) (ht : tslice P t = some k) (h2 : notInt P t2 = true)
    (s : Sim G φ h w) {x x' y y' v : Value} {h' : Heap} {args : Array Value} (hv : aappend k x y h = some (v, h')) (a0 : args[0]? = some x') (a1 : args[1]? = some y') (hx : VR φ x x') (hy : VR φ y y') :
    OpOk G P (Builtin.append_ ts ty args) φ h w v h' := by
  obtain ⟨n, b, z⟩ := k
  obtain ⟨e, e1, e2⟩ := tslice_run ht
  obtain ⟨q1, ⟨i, qi, qb, qn⟩, ⟨zv, q2, q3, q4⟩, q5, q6⟩ := telem_run e2 w
  have hnall : ∀ w, (sizeOf e).run P w = .ok n w := fun w => (telem_run e2 w).1
  have hzall : ∀ w, (zeroValue e).run P w = .ok zv w := fun w => by
    obtain ⟨_, _, ⟨zv', r2, r3, r4⟩, _, _⟩ := telem_run e2 w
    have : P.info? e = some i := qi
    simp only [zeroValue, typeInfo, Sem.run_bind, run_program, Result.andThen_ok, qi, Sem.run_pure] at q2 r2 ⊢
    cases hzz : i.zero with
    | none => rw [hzz] at q2; cases q2
    | some zz => rw [hzz] at q2; cases q2; rfl
  have hzs : zv.cells.size = n := by rw [← q5, ← q3]; simp
  unfold aappend at hv
  split at hv
  · cases hv
  rename_i cs m hsrc
  split at hv
  case isFalse => cases hv
  rename_i hb
  simp only at hb
  obtain ⟨p1, p2, p3⟩ := asource_ok (P := P) s hsrc hy
  obtain ⟨C, p4, p5⟩ := p3 m (Nat.le_refl _)
  rw [show m * (n, b, z).1 = m * n from rfl] at p2 p5
  rw [show cs.take (m * n) = cs from List.take_of_length_le (by omega)] at p5
  obtain ⟨_, _, p3d⟩ := asource_ok (P := P) (s.drawn (w.drawn + 1)) hsrc hy
  obtain ⟨C2, p4d, p5d⟩ := p3d m (Nat.le_refl _)
  rw [show m * (n, b, z).1 = m * n from rfl] at p5d
  rw [show cs.take (m * n) = cs from List.take_of_length_le (by omega)] at p5d
  -- a new row
  have grow : ∀ (base : Option Addr) (sl cap : Nat) (old : List Value) (D : Array Value) (cl : Option Nat) (h1' : Heap), (∀ q, cl = some q → q ≤ h1'.length) → args[0]? = some (.slice base sl cap) → ¬ sl + m ≤ cap → sl + m ≤ 1073741824 → old.length = sl * n →
      (Builtin.firstCells n sl (.slice base sl cap)).run P { w with drawn := w.drawn + 1 } = .ok D { w with drawn := w.drawn + 1 } → VRs φ old D.toList → Post G φ h w φ h1' w →
      OpOk G P (Builtin.append_ ts ty args) φ h w (.slice (some ⟨h1'.length, 0, none⟩) (sl + m) unk) (h1' ++ [.cells (old ++ cs) n cl true]) := by
    intro base sl cap old D cl h1' hcl a0 hfit hle hol hD hDr pk
    obtain ⟨c, hc, hrun⟩ := append_grow (P := P) (w := w) (ty := ty) h0 h1 a0 a1 e1 h2 hnall p1 hfit hle qi (by omega) hzall p4d hD
    have hlD := hDr.length
    have hlC := p5d.length
    simp only [Array.length_toList] at hlD hlC
    have hsz : (D ++ C2 ++ Builtin.zeroCells zv.cells (c - (sl + m))).size = c * n := by
      simp only [Array.size_append, Builtin.zeroCells, Array.size_map, Array.size_range, hzs]
      rw [← hlD, ← hlC, hol, p2, ← Nat.add_mul, ← Nat.add_mul]; congr 1; omega
    have P2 := post_cells (pk.sim.drawn (w.drawn + 1)) (old ++ cs) (D ++ C2 ++ Builtin.zeroCells zv.cells (c - (sl + m))) e n cl hcl (by simp; omega) fun j v hj => by
      obtain ⟨v', a, b⟩ := (VRs.append hDr p5d).get hj
      refine ⟨v', ?_, b⟩
      rw [Array.getElem?_append_left]
      · rw [← a, ← Array.toList_append, Array.getElem?_toList]
      · rw [← Array.toList_append, Array.getElem?_toList] at a
        exact (Array.getElem?_eq_some_iff.1 a).1
    refine ⟨_, _, _, hrun, ?_, Post.trans s pk P2.undraw⟩
    refine VR.slice _ 0 _ _ _ _ _ (Emb.upd_same _ _ _) (by omega) (.inr rfl) (.inr ⟨by simp, .inr ?_⟩)
    simp only [hsz]; omega
  split at hv
  · -- nil
    have := hx.flat_inv rfl; subst this
    split at hv
    · rename_i hm0
      cases hv
      subst hm0
      refine .still s (append_fit h0 h1 a0 a1 e1 h2 q1 p1 (by omega) p4 rfl) (.flt _ rfl)
    · rename_i hm0
      split at hv
      case isFalse => cases hv
      rename_i hle
      cases hv
      have := grow none 0 0 [] #[] (some h.length) h (fun q e => by cases e; exact Nat.le_refl _) a0 (by omega) (by omega) (by simp) rfl .nil (Post.refl s)
      simpa using this
  · rename_i id o sl c
    split at hv
    · rename_i hm0
      cases hv
      subst hm0
      obtain ⟨a, c', l, hl, rfl, hn, hc, ha⟩ := hx.slice_inv
      have hcs : C = #[] := by
        have := p5.length
        simp only [Array.length_toList] at this
        exact Array.eq_empty_of_size_eq_zero (by omega)
      subst hcs
      exact .still s (append_fit h0 h1 a0 a1 e1 h2 q1 p1 (by omega) p4 rfl) hx
    rename_i hm0
    split at hv
    case isFalse => cases hv
    rename_i hle
    split at hv
    case h_2 => cases hv
    rename_i c0 es cl rw he
    split at hv
    case isFalse => cases hv
    rename_i hlen
    simp only at hlen
    obtain ⟨a, c', l, hl, rfl, hn, hc, ha⟩ := hx.slice_inv
    obtain ⟨s1, s2, -⟩ := s.cells he hl
    -- the old cells
    have hD : ∃ D, (Builtin.firstCells n sl (.slice (some a) sl c')).run P { w with drawn := w.drawn + 1 } = .ok D { w with drawn := w.drawn + 1 } ∧ VRs φ ((c0.drop o).take (sl * n)) D.toList := by
      by_cases hz0 : sl * n = 0
      · refine ⟨#[], ?_, by rw [hz0]; simp; exact .nil⟩
        simp only [Builtin.firstCells, hz0]; rfl
      · have hsl : sl ≠ 0 := fun e => hz0 (by rw [e]; simp)
        obtain ⟨rfl, -⟩ := ha.resolve_left (by omega)
        exact run_loadCells' (P := P) (s.drawn (w.drawn + 1)) he hl (by omega)
    obtain ⟨D, hD1, hD2⟩ := hD
    have hold : ((c0.drop o).take (sl * n)).length = sl * n := by simp; omega
    split at hv
    · rename_i hu
      split at hv
      case h_2 => cases hv
      rename_i q
      split at hv
      case isFalse => cases hv
      rename_i hcond
      obtain ⟨rfl, r2, rfl, r4⟩ := hcond
      cases hv
      simp only at r2
      subst r2
      have pk := post_kill s (some q) (sl * es)
      by_cases hfit : sl + m ≤ c'
      · obtain ⟨rfl, room⟩ := ha.resolve_left (by omega)
        have room := room.resolve_left (by rw [s2]; simp)
        have he2 : (killAll (some q) (sl * es) h)[id]? = some (.cells c0 es (some q) true) ∨ (killAll (some q) (sl * es) h)[id]? = some .dead := by
          simp only [killAll, List.getElem?_map, he, Option.map_some, AObj.hit]
          split <;> simp
        -- share first, then kill
        have ps := post_share s he hl (n := sl * es) (by omega)
        have pks := post_kill ps.sim (some q) (sl * es)
        have hkapp : killAll (some q) (sl * es) (h ++ [.cells (c0.take (sl * es)) es (some q) true]) = killAll (some q) (sl * es) h ++ [.cells (c0.take (sl * es)) es (some q) true] := by
          simp only [killAll, List.map_append, List.map_cons, List.map_nil, AObj.hit]
          rw [if_neg (by simp only [List.length_take]; omega)]
        rw [hkapp] at pks
        have hl2 : (φ.upd h.length l) (killAll (some q) (sl * es) h).length = some l := by rw [killAll_length]; exact Emb.upd_same _ _ _
        have hlt : (c0.take (sl * es)).length = sl * es := by simp; omega
        have hroom2 : sl * es + m * es ≤ l.sz := by
          rw [s1] at room
          have : (sl + m) * es ≤ c' * es := Nat.mul_le_mul_right _ hfit
          rw [Nat.add_mul] at this
          omega
        have hkk : ∀ (j : Nat) (c2 : List Value) (es2 : Nat) (rw2 : Bool), (killAll (some q) (sl * es) h)[j]? = some (AObj.cells c2 es2 (some q) rw2) → c2.length ≤ (c0.take (sl * es)).length := by
          intro j c2 es2 rw2 hj
          obtain ⟨y, hy, ⟨rfl, hk⟩ | hd⟩ := killAll_get _ _ _ _ _ hj
          · rw [hlt]; exact hk q c2 es2 rw2 rfl rfl
          · cases hd
        obtain ⟨w', r, pp⟩ := pushes_ok (P := P) hl2 cs C.toList (c0.take (sl * es)) w (0 + sl * es) 0 pks.sim (by rw [hlt]; omega) (by rw [hlt, p2]; exact hroom2) hkk (p5.mono ps.ext) r4
        · refine ⟨.slice (some ⟨l.b, l.sh + 0, none⟩) (sl + m) c', w', φ.upd h.length l, ?_, ?_, ?_⟩
          · refine append_fit h0 h1 a0 a1 e1 h2 q1 p1 hfit p4 ?_
            simp only [add_none]
            rw [show l.sh + 0 + sl * es = l.sh + (0 + sl * es) from by omega]
            exact r
          · exact VR.slice _ 0 _ _ _ _ _ (Emb.upd_same _ _ _) hfit (.inr rfl) (.inr ⟨rfl, .inr room⟩)
          · exact Post.trans s (Post.trans s ps pks) pp
      · have := grow (some a) sl c' ((c0.drop 0).take (sl * es)) D (some q) (killAll (some q) (sl * es) h) (fun q' e => by cases e; rw [killAll_length]; have := s.wf id _ _ _ _ he; have := s.lt_len hl; omega) a0 hfit hle hold hD1 hD2 pk
        rw [killAll_length] at this
        simpa using this
    · rename_i hu
      have hcc : c = c' := hc.resolve_right hu
      subst hcc
      split at hv
      · rename_i hfit
        split at hv
        case isFalse => cases hv
        rename_i hcond
        obtain ⟨rfl, r2⟩ := hcond
        simp only at r2
        subst r2
        simp only [Option.map_eq_some_iff] at hv
        obtain ⟨h2', hs2, heq⟩ := hv
        cases heq
        obtain ⟨rfl, room⟩ := ha.resolve_left (by omega)
        obtain ⟨w', r, p⟩ := astores_ok (P := P) hl cs C.toList h _ w (o + sl * es) 0 s (by simpa using hs2) p5
        refine ⟨.slice (some ⟨l.b, l.sh + o, none⟩) (sl + m) c, w', φ, ?_, ?_, p⟩
        · refine append_fit h0 h1 a0 a1 e1 h2 q1 p1 hfit p4 ?_
          simp only [add_none]
          rw [show l.sh + o + sl * es = l.sh + (o + sl * es) from by omega]
          exact r
        · exact VR.slice _ o _ _ _ _ _ hl hfit (.inl rfl) (.inr ⟨rfl, room⟩)
      · rename_i hfit
        cases hv
        exact grow (some a) sl c ((c0.drop o).take (sl * n)) D (some h.length) h (fun q e => by cases e; exact Nat.le_refl _) a0 hfit hle hold hD1 hD2 (Post.refl s)
  · cases hv

/-! ### copy -/
def acopy (k : Nat × Nat × List Value) (d x : Value) (h : Heap) : Option (Value × Heap) :=
  match asource k.1 x h with
  | none => none
  | some (cs, m) =>
    match d with
    | .slice none 0 0 => some (.int .i64 0, h)
    | .slice (some ⟨id, o, none⟩) dl _ =>
      (astores h id o (cs.take (min m dl * k.1))).map fun h' => (.int .i64 (min m dl : Nat), h')
    | _ => none
theorem acopy_ok {ts : Array TypeId} {ty t : TypeId} {k : Nat × Nat × List Value} (h0 : ts[0]? = some t) (ht : tslice P t = some k)
    (s : Sim G φ h w) {x x' y y' v : Value} {h' : Heap} {args : Array Value} (hv : acopy k x y h = some (v, h')) (a0 : args[0]? = some x') (a1 : args[1]? = some y') (hx : VR φ x x') (hy : VR φ y y') :
    OpOk G P (Builtin.copy_ ts ty args) φ h w v h' := by
  obtain ⟨n, b, z⟩ := k
  obtain ⟨e, e1, e2⟩ := tslice_run ht
  obtain ⟨q1, -, -, -, -⟩ := telem_run e2 w
  unfold acopy at hv
  split at hv
  · cases hv
  rename_i cs m hsrc
  obtain ⟨p1, p2, p3⟩ := asource_ok (P := P) s hsrc hy
  split at hv
  · cases hv
    have := hx.flat_inv rfl; subst this
    obtain ⟨C, p4, p5⟩ := p3 0 (Nat.zero_le _)
    refine .still s (v' := .int .i64 0) ?_ (.flt _ rfl)
    simp only [Builtin.copy_, h0, a0, a1, Sem.run_bind, run_underlying e1, Result.andThen_ok, p1, q1]
    rw [show Nat.min m 0 = 0 from Nat.min_zero m]
    rw [show (0 : Nat) = 0 from rfl] at p4
    simp only [p4, Result.andThen_ok]; rfl
  · rename_i id o dl c
    simp only [Option.map_eq_some_iff] at hv
    obtain ⟨h2', hs2, heq⟩ := hv
    cases heq
    obtain ⟨a, c', l, hl, rfl, hn, hc, ha⟩ := hx.slice_inv
    obtain ⟨C, p4, p5⟩ := p3 (min m dl) (Nat.min_le_left _ _)
    by_cases hz : min m dl = 0
    · rw [hz] at hs2 p5
      simp [astores] at hs2
      subst hs2
      have hc0 : C = #[] := by
        have := p5.length
        simp at this
        exact Array.eq_empty_of_size_eq_zero this.symm
      subst hc0
      refine .still s (v' := .int .i64 (min m dl : Nat)) ?_ (.flt _ rfl)
      simp only [Builtin.copy_, h0, a0, a1, Sem.run_bind, run_underlying e1, Result.andThen_ok, p1, q1]
      rw [show Nat.min m dl = min m dl from rfl, p4]
      rfl
    · obtain ⟨rfl, -⟩ := ha.resolve_left (by have := Nat.min_le_right m dl; omega)
      obtain ⟨w', r, p⟩ := astores_ok (P := P) hl _ C.toList h _ w o 0 s (by simpa using hs2) p5
      refine ⟨.int .i64 (min m dl : Nat), w', φ, ?_, .flt _ rfl, p⟩
      simp only [Builtin.copy_, h0, a0, a1, Sem.run_bind, run_underlying e1, Result.andThen_ok, p1, q1]
      rw [show Nat.min m dl = min m dl from rfl, p4]
      simp only [Result.andThen_ok, Sem.run_bind, r, Sem.run_pure]
      rfl
  · cases hv

end
end Go.Proofs.Ytnhnelhcipafeaa.Ab
