/- New objects, reading, writing: what they do to the picture and to the world. -/
import Derived.Test.YtnhnelhcipafeaaAb1
namespace Go.Proofs.Ytnhnelhcipafeaa.Ab
open Go Go.RowKit

def Emb.upd (φ : Emb) (id : Nat) (l : Loc) : Emb := fun i => if i = id then some l else φ i
theorem Emb.upd_same (φ : Emb) (id : Nat) (l : Loc) : φ.upd id l id = some l := by simp [Emb.upd]
theorem Emb.upd_ne (φ : Emb) {id i : Nat} (l : Loc) (h : i ≠ id) : φ.upd id l i = φ i := by simp [Emb.upd, h]
theorem Ext.upd {φ : Emb} {id : Nat} (l : Loc) (h : φ id = none) : Ext φ (φ.upd id l) := fun i l' e => by
  by_cases hi : i = id
  · subst hi; rw [h] at e; cases e
  · rw [Emb.upd_ne _ _ hi]; exact e

theorem heap_alloc_lt (w : World) (o : Obj) {k : Nat} (h : k < w.heap.size) : (w.alloc o).heap[k]? = w.heap[k]? := Below.heap_alloc w o k h
theorem heap_alloc_new (w : World) (o : Obj) : (w.alloc o).heap[w.heap.size]? = some o := by
  show (w.heap.push o)[w.heap.size]? = _
  simp
theorem size_alloc (w : World) (o : Obj) : (w.alloc o).heap.size = w.heap.size + 1 := by
  show (w.heap.push o).size = _
  simp

theorem ORel.mono {φ φ' : Emb} {w w' : World} (hx : Ext φ φ') {id : Nat} {o : AObj} (h : ORel φ w id o) (hb : ∀ l, φ id = some l → w'.heap[l.b]? = w.heap[l.b]?) : ORel φ' w' id o := by
  cases o with
  | dead => obtain ⟨l, e⟩ := h; exact ⟨l, hx _ _ e⟩
  | cells c es k rw =>
    obtain ⟨l, C, t, fr, e, h1, h2, h3, h4, h5⟩ := h
    refine ⟨l, C, t, fr, hx _ _ e, h1, h2, (hb l e).trans h3, h4, fun j v hj => ?_⟩
    obtain ⟨v', a, b⟩ := h5 j v hj
    exact ⟨v', a, b.mono hx⟩
  | map es clock =>
    obtain ⟨l, es', e, h1, h2⟩ := h
    exact ⟨l, es', hx _ _ e, (hb l e).trans h1, h2.mono hx⟩
  | iter m since seen st =>
    obtain ⟨l, m', e, h0, h1, h2⟩ := h
    refine ⟨l, m', hx _ _ e, h0, (hb l e).trans h1, ?_⟩
    rcases h2 with h2 | ⟨i, li, a, b, c⟩
    · exact .inl h2
    · exact .inr ⟨i, li, a, hx _ _ b, c⟩

theorem Sim.lt_len {G : Nat} {φ : Emb} {h : Heap} {w : World} (s : Sim G φ h w) {id : Nat} {l : Loc} (e : φ id = some l) : id < h.length := by
  apply Classical.byContradiction; intro hn
  rw [s.dom id (by omega)] at e; cases e

/-- A new object at a new block. -/
theorem post_new {G : Nat} {φ : Emb} {h : Heap} {w : World} (s : Sim G φ h w) (o : AObj) (B : Obj) (l : Loc) (hl : l.b = w.heap.size)
    (ho : ORel (φ.upd h.length l) (w.alloc B) h.length o) (hk : ∀ (c : List Value) (es k : Nat) (rw : Bool), o = .cells c es (some k) rw → k ≤ h.length) : Post G φ h w (φ.upd h.length l) (h ++ [o]) (w.alloc B) := by
  have hn : φ h.length = none := s.dom _ (Nat.le_refl _)
  have hx : Ext φ (φ.upd h.length l) := Ext.upd l hn
  have hget : ∀ i (x : AObj), (h ++ [o])[i]? = some x → (i < h.length ∧ h[i]? = some x) ∨ (i = h.length ∧ x = o) := by
    intro i x hi
    by_cases hlt : i < h.length
    · rw [List.getElem?_append_left hlt] at hi; exact .inl ⟨hlt, hi⟩
    · rw [List.getElem?_append_right (by omega)] at hi
      have : i - h.length = 0 := by
        apply Classical.byContradiction; intro h0
        rw [List.getElem?_eq_none (by simp; omega)] at hi; cases hi
      rw [this] at hi; simp at hi
      exact .inr ⟨by omega, hi.symm⟩
  refine ⟨hx, ⟨?_, ?_, ?_, ?_, ?_, ?_⟩, ⟨rfl, rfl, rfl, by rw [size_alloc]; omega, fun b hb _ => heap_alloc_lt w B hb⟩, ?_, by simp, ?_⟩
  · intro i x hi
    rcases hget i x hi with ⟨hlt, e⟩ | ⟨rfl, rfl⟩
    · exact (s.objs i x e).mono hx fun l' e' => heap_alloc_lt w B (s.lt _ _ e')
    · exact ho
  · intro i i' x x' li li' hi hi' hne e e' hb
    rcases hget i x hi with ⟨hlt, ei⟩ | ⟨rfl, rfl⟩ <;> rcases hget i' x' hi' with ⟨hlt', ei'⟩ | ⟨rfl, rfl⟩
    · rw [Emb.upd_ne _ _ (by omega)] at e e'
      exact s.sep i i' x x' li li' ei ei' hne e e' hb
    · rw [Emb.upd_same] at e'; rw [Emb.upd_ne _ _ (by omega)] at e
      cases e'; have := s.lt _ _ e; omega
    · rw [Emb.upd_same] at e; rw [Emb.upd_ne _ _ (by omega)] at e'
      cases e; have := s.lt _ _ e'; omega
    · exact absurd rfl hne
  · intro i l' e
    by_cases hi : i = h.length
    · subst hi; rw [Emb.upd_same] at e; cases e; rw [size_alloc, hl]; omega
    · rw [Emb.upd_ne _ _ hi] at e; have := s.lt _ _ e; rw [size_alloc]; omega
  · intro i hi
    simp at hi
    rw [Emb.upd_ne _ _ (by omega)]; exact s.dom i (by omega)
  · intro g hg
    obtain ⟨l', e, k⟩ := s.glob g hg
    exact ⟨l', hx _ _ e, k⟩
  · intro i c es k rw e
    rcases hget i _ e with ⟨hlt, e2⟩ | ⟨rfl, e2⟩
    · exact s.wf i c es k rw e2
    · exact hk c es k rw e2.symm
  · intro i l' e
    by_cases hi : i = h.length
    · subst hi; rw [Emb.upd_same] at e; cases e; exact .inr ⟨Nat.le_refl _, .inl (by omega)⟩
    · rw [Emb.upd_ne _ _ hi] at e; exact .inl e
  · intro i o' hi e r
    rw [List.getElem?_append_left hi] at e
    exact ⟨o', e, r⟩

/-- A new row of cells. -/
theorem post_cells {G : Nat} {φ : Emb} {h : Heap} {w : World} (s : Sim G φ h w) (c : List Value) (C : Array Value) (t : TypeId) (es : Nat) (k : Option Nat) (hkl : ∀ q, k = some q → q ≤ h.length) (hc : c.length ≤ C.size)
    (hv : ∀ (j : Nat) v, c[j]? = some v → ∃ v', C[j]? = some v' ∧ VR φ v v') :
    Post G φ h w (φ.upd h.length ⟨w.heap.size, 0, C.size, es, false⟩) (h ++ [.cells c es k true]) (w.alloc (.cells C t (0, 0))) := by
  refine post_new s _ _ _ rfl ⟨_, C, t, (0, 0), Emb.upd_same _ _ _, rfl, rfl, heap_alloc_new w _, fun _ => ⟨rfl, by simp, hc⟩, fun j v hj => ?_⟩ (fun c' es' k' rw' e => by cases e; exact hkl k' rfl)
  obtain ⟨v', a, b⟩ := hv j v hj
  exact ⟨v', by simpa using a, b.mono (Ext.upd _ (s.dom _ (Nat.le_refl _)))⟩

theorem cell_of {w : World} {b i : Nat} {C : Array Value} {t : TypeId} {fr : Nat × Nat} (h : w.heap[b]? = some (.cells C t fr)) : w.cell? ⟨b, i, none⟩ = C[i]? := by
  simp [World.cell?, h]
theorem frozen_of {w : World} {b i : Nat} {C : Array Value} {t : TypeId} (h : w.heap[b]? = some (.cells C t (0, 0))) : w.frozen? ⟨b, i, none⟩ = false := by
  simp [World.frozen?, h]

theorem Sim.cells {G : Nat} {φ : Emb} {h : Heap} {w : World} (s : Sim G φ h w) {id es : Nat} {c : List Value} {k : Option Nat} {rw : Bool} (e : h[id]? = some (.cells c es k rw)) {l : Loc} (hl : φ id = some l) :
    l.es = es ∧ l.ro = !rw ∧ ∃ C t fr, w.heap[l.b]? = some (.cells C t fr) ∧
      (rw = true → fr = (0, 0) ∧ l.sh + l.sz ≤ C.size ∧ c.length ≤ l.sz) ∧ ∀ (j : Nat) v, c[j]? = some v → ∃ v', C[l.sh + j]? = some v' ∧ VR φ v v' := by
  obtain ⟨l', C, t, fr, e', h1, h2, h3, h4, h5⟩ := s.objs id _ e
  rw [hl] at e'; cases e'
  exact ⟨h1, h2, C, t, fr, h3, h4, h5⟩

theorem Sim.load {G : Nat} {φ : Emb} {h : Heap} {w : World} (s : Sim G φ h w) {id es o : Nat} {c : List Value} {k : Option Nat} {rw : Bool} {v : Value} (e : h[id]? = some (.cells c es k rw)) {l : Loc} (hl : φ id = some l) (hv : c[o]? = some v) :
    ∃ v', w.cell? ⟨l.b, l.sh + o, none⟩ = some v' ∧ VR φ v v' := by
  obtain ⟨_, _, C, t, fr, h3, _, h5⟩ := s.cells e hl
  obtain ⟨v', a, b⟩ := h5 o v hv
  exact ⟨v', by rw [cell_of h3]; exact a, b⟩

def okCell : Value → Bool
  | .agg _ | .tuple _ | .chan _ => false
  | _ => true
theorem VR.oneCell {φ : Emb} {v v' : Value} (h : VR φ v v') (hv : okCell v = true) : v'.oneCell' = true := by
  cases h <;> first | (simp [okCell] at hv; done) | rfl | skip
  · cases v <;> first | rfl | (simp [okCell] at hv; done)

def AObj.hit (k o : Nat) : AObj → AObj
  | .cells c es (some k') rw => if k' = k ∧ o < c.length then .dead else .cells c es (some k') rw
  | x => x
/-- Whatever else may lie in the row that is written from cell o on is given up. -/
def killed (cls : Option Nat) (o id : Nat) (h : Heap) : Heap :=
  match cls with
  | none => h
  | some k => h.mapIdx fun j x => if j = id then x else x.hit k o
def astore1 (h : Heap) (id o : Nat) (v : Value) : Option Heap :=
  match h[id]? with
  | some (.cells c es cls true) => if o < c.length ∧ okCell v = true then some (killed cls o id (h.set id (.cells (c.set o v) es cls true))) else none
  | _ => none
def astores (h : Heap) (id o : Nat) : List Value → Option Heap
  | [] => some h
  | v :: vs => (astore1 h id o v).bind fun h' => astores h' id (o + 1) vs

theorem killed_length (cls : Option Nat) (o id : Nat) (h : Heap) : (killed cls o id h).length = h.length := by
  cases cls <;> simp [killed]
theorem hit_cases (k o : Nat) (x : AObj) : x.hit k o = x ∨ x.hit k o = .dead := by
  unfold AObj.hit
  split
  · split <;> simp
  · simp
theorem killed_get (cls : Option Nat) (o id : Nat) (h : Heap) (i : Nat) (x : AObj) (e : (killed cls o id h)[i]? = some x) :
    ∃ y, h[i]? = some y ∧ ((x = y ∧ (i = id ∨ ∀ k c es rw, cls = some k → x = .cells c es (some k) rw → c.length ≤ o)) ∨ x = .dead) := by
  cases cls with
  | none => exact ⟨x, e, .inl ⟨rfl, .inr fun _ _ _ _ hk => by cases hk⟩⟩
  | some k =>
    simp only [killed, List.getElem?_mapIdx, Option.map_eq_some_iff] at e
    obtain ⟨y, hy, rfl⟩ := e
    refine ⟨y, hy, ?_⟩
    by_cases hi : i = id
    · simp [hi]
    · simp only [hi, if_false, false_or]
      rcases hit_cases k o y with e | e
      · left
        refine ⟨e, ?_⟩
        intro k' c es rw hk hx
        cases hk
        rw [hx] at e
        rw [← e] at hx
        simp only [AObj.hit] at hx
        apply Classical.byContradiction; intro hlt
        rw [if_pos ⟨trivial, by omega⟩] at hx
        cases hx
      · exact .inr e

theorem World.heap_set_same (w : World) {b : Nat} {C : Array Value} {t : TypeId} {fr : Nat × Nat} (h : w.heap[b]? = some (.cells C t fr)) (i : Nat) (v : Value) :
    (w.setCell ⟨b, i, none⟩ v).heap[b]? = some (.cells (C.setIfInBounds i v) t fr) := by
  simp [World.setCell, Array.getElem?_modify, h]
theorem World.size_set (w : World) (a : Addr) (v : Value) : (w.setCell a v).heap.size = w.heap.size := by simp [World.setCell]

theorem post_store {G : Nat} {φ : Emb} {h h' : Heap} {w : World} (s : Sim G φ h w) {id o : Nat} {v v' : Value} (hs : astore1 h id o v = some h') {l : Loc} (hl : φ id = some l) (hv : VR φ v v') :
    (∃ u, w.cell? ⟨l.b, l.sh + o, none⟩ = some u) ∧ w.frozen? ⟨l.b, l.sh + o, none⟩ = false ∧ v'.oneCell' = true ∧ Post G φ h w φ h' (w.setCell ⟨l.b, l.sh + o, none⟩ v') := by
  unfold astore1 at hs
  split at hs
  case h_2 => cases hs
  rename_i c es cls heq
  split at hs
  case isFalse => cases hs
  rename_i hc
  cases hs
  obtain ⟨ho, hok⟩ := hc
  obtain ⟨h1, h2, C, t, fr, h3, h4, h5⟩ := s.cells heq hl
  obtain ⟨rfl, h4b, h4c⟩ := h4 rfl
  have hlt : id < h.length := s.lt_len hl
  refine ⟨⟨_, (cell_of h3).trans (Array.getElem?_eq_getElem (by omega))⟩, frozen_of h3, hv.oneCell hok, ⟨Ext.refl _, ⟨?_, ?_, ?_, ?_, s.glob, ?_⟩, ⟨rfl, rfl, rfl, by rw [World.size_set]; omega, ?_⟩, fun _ _ e => .inl e, by rw [killed_length]; simp, ?_⟩⟩
  · intro i x e
    obtain ⟨y, hy, hxy⟩ := killed_get _ _ _ _ _ _ e
    rcases hxy with ⟨rfl, hk⟩ | rfl
    · by_cases hi : i = id
      · subst hi
        rw [List.getElem?_set_self (by omega)] at hy; cases hy
        refine ⟨l, C.setIfInBounds (l.sh + o) v', t, (0, 0), hl, h1, h2, World.heap_set_same w h3 _ _, fun _ => ⟨rfl, by simpa using h4b, by simpa using h4c⟩, fun j u hj => ?_⟩
        by_cases hjo : j = o
        · subst hjo
          rw [List.getElem?_set_self ho] at hj; cases hj
          exact ⟨v', by rw [Array.getElem?_setIfInBounds]; simp; omega, hv⟩
        · rw [List.getElem?_set_ne (fun e => hjo e.symm)] at hj
          obtain ⟨u', a, b⟩ := h5 j u hj
          exact ⟨u', by rw [Array.getElem?_setIfInBounds]; rw [if_neg (by omega)]; exact a, b⟩
      · rw [List.getElem?_set_ne (fun e => hi e.symm)] at hy
        have hrel := s.objs i _ hy
        obtain ⟨l', hl'⟩ := s.get_some (id := i) (by
          apply Classical.byContradiction; intro hn
          rw [List.getElem?_eq_none (by omega)] at hy; cases hy)
        by_cases hb : l'.b = l.b
        · have hkin := s.sep id i _ _ l l' heq hy (fun e => hi e.symm) hl hl' hb.symm
          cases x with
          | dead => exact ⟨l', hl'⟩
          | map es2 ck =>
            obtain ⟨l2, es', e2, hm, _⟩ := hrel
            rw [hl'] at e2; cases e2
            rw [hb, h3] at hm; cases hm
          | iter m2 s2 sn2 st2 =>
            obtain ⟨l2, m', e2, _, hm, _⟩ := hrel
            rw [hl'] at e2; cases e2
            rw [hb, h3] at hm; cases hm
          | cells c2 es2 k2 rw2 =>
            obtain ⟨hk1, hk2, hk3⟩ := hkin
            obtain ⟨l2, C2, t2, fr2, e2, g1, g2, g3, g4, g5⟩ := hrel
            rw [hl'] at e2; cases e2
            rw [hb, h3] at g3; cases g3
            obtain ⟨kk, hkk⟩ := Option.isSome_iff_exists.1 hk2
            have hlen : c2.length ≤ o := (hk.resolve_left hi) kk c2 es2 rw2 hkk (by rw [← hkk, hk1])
            refine ⟨l', C.setIfInBounds (l.sh + o) v', t, (0, 0), hl', g1, g2, by rw [hb]; exact World.heap_set_same w h3 _ _, fun hr => ⟨rfl, by simpa using (g4 hr).2.1, (g4 hr).2.2⟩, fun j u hj => ?_⟩
            have hj2 : j < c2.length := by
              apply Classical.byContradiction; intro hn
              rw [List.getElem?_eq_none (by omega)] at hj; cases hj
            obtain ⟨u', a, b⟩ := g5 j u hj
            exact ⟨u', by rw [Array.getElem?_setIfInBounds]; rw [if_neg (by omega)]; exact a, b⟩
        · exact hrel.mono (Ext.refl _) fun l2 e2 => by
            rw [hl'] at e2; cases e2
            exact Below.heap_setCell w _ _ _ hb
    · obtain ⟨l', hl'⟩ := s.get_some (id := i) (by
        apply Classical.byContradiction; intro hn
        rw [List.getElem?_eq_none (by simp; omega)] at hy; cases hy)
      exact ⟨l', hl'⟩
  · intro i i' x x' li li' e e' hne el el' hb
    obtain ⟨y, hy, hxy⟩ := killed_get _ _ _ _ _ _ e
    obtain ⟨y', hy', hxy'⟩ := killed_get _ _ _ _ _ _ e'
    rcases hxy with ⟨rfl, -⟩ | rfl
    case inr => exact trivial
    rcases hxy' with ⟨rfl, -⟩ | rfl
    case inr => 
      have := s.lt _ _ el
      cases x with
      | dead => exact trivial
      | map => exact trivial
      | iter => exact trivial
      | cells c2 es2 k2 rw2 => 
        cases rw2 <;> exact trivial
    have hold : ∀ i (x : AObj), (h.set id (.cells (c.set o v) es cls true))[i]? = some x → ∃ z, h[i]? = some z ∧ (x = z ∨ (i = id ∧ z = .cells c es cls true ∧ x = .cells (c.set o v) es cls true)) := by
      intro i x hi
      by_cases hid : i = id
      · subst hid
        rw [List.getElem?_set_self (by omega)] at hi; cases hi
        exact ⟨_, heq, .inr ⟨rfl, rfl, rfl⟩⟩
      · rw [List.getElem?_set_ne (fun e => hid e.symm)] at hi
        exact ⟨x, hi, .inl rfl⟩
    obtain ⟨z, hz, hxz⟩ := hold i x hy
    obtain ⟨z', hz', hxz'⟩ := hold i' x' hy'
    have hkin := s.sep i i' z z' li li' hz hz' hne el el' hb
    rcases hxz with rfl | ⟨-, rfl, rfl⟩ <;> rcases hxz' with rfl | ⟨-, rfl, rfl⟩
    · exact hkin
    · cases x with
      | dead => exact trivial
      | map => exact hkin
      | iter => exact hkin
      | cells c2 es2 k2 rw2 => cases rw2 <;> exact hkin
    · cases x' <;> exact hkin
    · exact hkin
  · intro i l' e
    rw [World.size_set]; exact s.lt _ _ e
  · intro i hi
    rw [killed_length] at hi; simp at hi
    exact s.dom i hi
  · intro i c2 es2 k2 rw2 e
    obtain ⟨y, hy, hxy⟩ := killed_get _ _ _ _ _ _ e
    rcases hxy with ⟨rfl, -⟩ | hd
    · by_cases hid : i = id
      · subst hid
        rw [List.getElem?_set_self (by omega)] at hy; cases hy
        exact s.wf i _ _ _ _ heq
      · rw [List.getElem?_set_ne (fun e => hid e.symm)] at hy
        exact s.wf i _ _ _ _ hy
    · cases hd
  · intro b hb hk
    exact Below.heap_setCell w _ _ _ (fun e => hk id _ l heq rfl hl e.symm)
  · intro i o' hi e r
    obtain ⟨y, hy, hxy⟩ := killed_get _ _ _ _ _ _ e
    rcases hxy with ⟨rfl, -⟩ | rfl
    · by_cases hid : i = id
      · subst hid; exact ⟨_, heq, rfl⟩
      · rw [List.getElem?_set_ne (fun e => hid e.symm)] at hy
        exact ⟨_, hy, r⟩
    · cases r

end Go.Proofs.Ytnhnelhcipafeaa.Ab
