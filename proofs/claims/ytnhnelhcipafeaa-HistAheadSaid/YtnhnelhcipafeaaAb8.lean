/- Operators, comparisons, conversions, maps. -/
import Derived.Test.YtnhnelhcipafeaaAb7
set_option linter.unusedSimpArgs false
set_option linter.unusedVariables false
namespace Go.Proofs.Ytnhnelhcipafeaa.Ab
open Go Go.RowKit

section
variable {G : Nat} {P : Program} {φ : Emb} {h : Heap} {w : World}

/-! ### equality -/
def fieldOk (P : Program) (t : TypeId) : Bool := !P.stoodInHeld t
def aeqFields (P : Program) (rec : TypeId → Value → Value → Option Bool) (xs ys : List Value) : List Field → Option Bool
  | [] => some true
  | f :: fs =>
    if f.name = "_" then aeqFields P rec xs ys fs else
    match tin P f.type with
    | some gn => match apart gn f.offset xs, apart gn f.offset ys with
      | some a, some b => match rec f.type a b, aeqFields P rec xs ys fs with
        | some r, some s => some (r && s)
        | _, _ => none
      | _, _ => none
    | none => none
def aeq (P : Program) : Nat → TypeId → Value → Value → Option Bool
  | 0, _, _, _ => none
  | d + 1, t, x, y =>
    match P.underlying t, x, y with
    | some .bool, .bool a, .bool b => some (a == b)
    | some (.int _), .int k a, .int k' b => if k = k' then some (a == b) else none
    | some .string, .string a, .string b => some (a == b)
    | some (.pointer _), .pointer none, .pointer none => some true
    | some (.pointer _), .pointer none, .pointer (some ⟨_, _, none⟩) => some false
    | some (.pointer _), .pointer (some ⟨_, _, none⟩), .pointer none => some false
    | some (.interface _), .nilIface, .nilIface => some true
    | some (.interface _), .nilIface, .iface _ _ => some false
    | some (.interface _), .iface _ _, .nilIface => some false
    | some (.slice _), .slice none 0 0, .slice none 0 0 => some true
    | some (.slice _), .slice none 0 0, .slice (some ⟨_, _, none⟩) _ _ => some false
    | some (.slice _), .slice (some ⟨_, _, none⟩) _ _, .slice none 0 0 => some false
    | some (.map _ _), .map none, .map none => some true
    | some (.map _ _), .map none, .map (some _) => some false
    | some (.map _ _), .map (some _), .map none => some false
    | some (.func _ _ _), .nilFunc, .nilFunc => some true
    | some (.func _ _ _), .nilFunc, .func _ _ _ => some false
    | some (.func _ _ _), .func _ _ _, .nilFunc => some false
    | some (.struct fs), .agg xs, .agg ys => if P.stoodInHeld t then none else aeqFields P (aeq P d) xs.toList ys.toList fs.toList
    | _, _, _ => none
theorem VR.map_inv {id : Nat} {v' : Value} (h : VR φ (.map (some id)) v') : ∃ l, φ id = some l ∧ v' = .map (some l.b) := by
  cases h with
  | flt _ h => simp [flat] at h
  | map _ l h => exact ⟨l, h, rfl⟩
theorem VR.func_inv {fn : Fn} {f c : Array Value} {v' : Value} (h : VR φ (.func fn f c) v') : ∃ f' c', v' = .func fn f' c' ∧ VRs φ f.toList f'.toList ∧ VRs φ c.toList c'.toList := by
  cases h with
  | flt _ h => simp [flat] at h
  | func _ _ f' _ c' hf hc => exact ⟨f', c', rfl, hf, hc⟩
theorem VR.iface_inv {t : TypeId} {v : Value} {v' : Value} (h : VR φ (.iface t v) v') : ∃ x, v' = .iface t x ∧ VR φ v x := by
  cases h with
  | flt _ h => simp [flat] at h
  | iface _ _ x h => exact ⟨x, rfl, h⟩
theorem aeq_ok : (∀ (d : Nat) (t : TypeId) (x y x' y' : Value) (r : Bool), aeq P d t x y = some r → VR φ x x' → VR φ y y' → (Op.equalIn d t x' y').run P w = .ok r w) := by
  intro d
  induction d with
  | zero => intro t x y x' y' r h; simp [aeq] at h
  | succ d ih =>
    have fields : ∀ (fs : List Field) (xs ys : List Value) (xs' ys' : Array Value) (r : Bool), aeqFields P (aeq P d) xs ys fs = some r → VRs φ xs xs'.toList → VRs φ ys ys'.toList → (Op.eqFields d xs' ys' fs).run P w = .ok r w := by
      intro fs
      induction fs with
      | nil => intro xs ys xs' ys' r h _ _; simp [aeqFields] at h; subst h; rfl
      | cons f fs ihf =>
        intro xs ys xs' ys' r h hx hy
        simp only [aeqFields] at h
        simp only [Op.eqFields]
        by_cases hn : f.name = "_"
        · rw [if_pos hn] at h
          rw [if_neg (by simpa using hn)]
          exact ihf xs ys xs' ys' r h hx hy
        · rw [if_neg hn] at h
          rw [if_pos hn]
          split at h
          case h_2 => cases h
          rename_i gn ht
          split at h
          case h_2 => cases h
          rename_i a b ha hb
          split at h
          case h_2 => cases h
          rename_i r1 s1 hr1 hs1
          cases h
          obtain ⟨a', p1, p2⟩ := apart_ok ht ha hx w
          obtain ⟨b', p3, p4⟩ := apart_ok ht hb hy w
          simp only [Sem.run_bind, p1, p3, Result.andThen_ok, ih _ _ _ _ _ _ hr1 p2 p4, Sem.run_ite, ihf xs ys xs' ys' s1 hs1 hx hy]
          cases r1 <;> simp
    intro t x y x' y' r h hx hy
    unfold aeq at h
    split at h
    · rename_i hu; cases h; have := hx.flat_inv rfl; subst this; have := hy.flat_inv rfl; subst this; simp [Op.equalIn, run_underlying hu]
    · rename_i hu
      split at h
      case isFalse => cases h
      rename_i hk
      cases h; have := hx.flat_inv rfl; subst this; have := hy.flat_inv rfl; subst this; simp [Op.equalIn, run_underlying hu, hk]
    · rename_i hu; cases h; have := hx.flat_inv rfl; subst this; have := hy.flat_inv rfl; subst this; simp [Op.equalIn, run_underlying hu]
    · rename_i hu; cases h; have := hx.flat_inv rfl; subst this; have := hy.flat_inv rfl; subst this; simp [Op.equalIn, run_underlying hu]
    · rename_i hu; cases h; have := hx.flat_inv rfl; subst this; obtain ⟨l, hl, rfl⟩ := hy.ptr_inv; simp [Op.equalIn, run_underlying hu]
    · rename_i hu; cases h; have := hy.flat_inv rfl; subst this; obtain ⟨l, hl, rfl⟩ := hx.ptr_inv; simp [Op.equalIn, run_underlying hu]
    · rename_i hu; cases h; have := hx.flat_inv rfl; subst this; have := hy.flat_inv rfl; subst this; simp [Op.equalIn, run_underlying hu]
    · rename_i hu; cases h; have := hx.flat_inv rfl; subst this; obtain ⟨x2, rfl, _⟩ := hy.iface_inv; simp [Op.equalIn, run_underlying hu]
    · rename_i hu; cases h; have := hy.flat_inv rfl; subst this; obtain ⟨x2, rfl, _⟩ := hx.iface_inv; simp [Op.equalIn, run_underlying hu]
    · rename_i hu; cases h; have := hx.flat_inv rfl; subst this; have := hy.flat_inv rfl; subst this; simp [Op.equalIn, run_underlying hu]
    · rename_i hu; cases h; have := hx.flat_inv rfl; subst this; obtain ⟨a, c', l, hl, rfl, hn, hc, ha⟩ := hy.slice_inv; simp [Op.equalIn, run_underlying hu]
    · rename_i hu; cases h; have := hy.flat_inv rfl; subst this; obtain ⟨a, c', l, hl, rfl, hn, hc, ha⟩ := hx.slice_inv; simp [Op.equalIn, run_underlying hu]
    · rename_i hu; cases h; have := hx.flat_inv rfl; subst this; have := hy.flat_inv rfl; subst this; simp [Op.equalIn, run_underlying hu]
    · rename_i hu; cases h; have := hx.flat_inv rfl; subst this; obtain ⟨l, hl, rfl⟩ := hy.map_inv; simp [Op.equalIn, run_underlying hu]
    · rename_i hu; cases h; have := hy.flat_inv rfl; subst this; obtain ⟨l, hl, rfl⟩ := hx.map_inv; simp [Op.equalIn, run_underlying hu]
    · rename_i hu; cases h; have := hx.flat_inv rfl; subst this; have := hy.flat_inv rfl; subst this; simp [Op.equalIn, run_underlying hu]
    · rename_i hu; cases h; have := hx.flat_inv rfl; subst this; obtain ⟨f', c', rfl, _⟩ := hy.func_inv; simp [Op.equalIn, run_underlying hu]
    · rename_i hu; cases h; have := hy.flat_inv rfl; subst this; obtain ⟨f', c', rfl, _⟩ := hx.func_inv; simp [Op.equalIn, run_underlying hu]
    · rename_i fs xs ys hu
      split at h
      case isTrue => cases h
      rename_i hst
      obtain ⟨X, rfl, hX⟩ := hx.agg_inv
      obtain ⟨Y, rfl, hY⟩ := hy.agg_inv
      have hf : P.fieldsOf t = fs := by simp [Program.fieldsOf, hu]
      rw [run_equalIn_struct (P := P) w d t X Y (by rw [hf]; exact hu) (by simpa using hst), hf]
      exact fields fs.toList _ _ X Y r h hX hY
    · cases h

/-! ### operators -/
def isConstOp : Operand → Bool
  | .const _ => true
  | _ => false
/-- May '==' be asked without further ado? -/
def guardOk (P : Program) (t : TypeId) (X Y : Operand) (x y : Value) : Bool :=
  match x, y with
  | .nilIface, .nilIface => isConstOp X || isConstOp Y
  | .agg _, .agg _ => !P.eqGuardType P.depth t
  | .chan _, _ => false
  | _, .chan _ => false
  | _, _ => true
def abin (P : Program) (op : BinOp) (t : TypeId) (X Y : Operand) (x y : Value) : Option Value :=
  match x, y with
  | .int _ _, .int _ _ => prunF P (binOp op t x y)
  | .string _, .string _ => prunF P (binOp op t x y)
  | _, _ =>
    if guardOk P t X Y x y then
      match op with
      | .eql => (aeq P Op.maxDepth t x y).map .bool
      | .neq => (aeq P Op.maxDepth t x y).map fun b => .bool (!b)
      | _ => none
    else none
theorem guard_skip {op : BinOp} {t : TypeId} {X Y : Operand} {x' y' : Value} (n1 : ¬ (x' = .nilIface ∧ y' = .nilIface)) (n2 : ∀ a b, ¬ (x' = .agg a ∧ y' = .agg b)) (w : World) : (eqGuard op t X Y x' y').run P w = .ok () w := by
  have key : ((match x', y' with
    | .nilIface, .nilIface => (stuck "" : Sem Unit)
    | .agg _, .agg _ => stuck ""
    | _, _ => pure ()) = pure ()) := by
    split
    · exact absurd ⟨rfl, rfl⟩ n1
    · exact absurd ⟨rfl, rfl⟩ (n2 _ _)
    · rfl
  cases op <;> first | rfl | skip
  all_goals
    simp only [eqGuard, Bool.not_true, Bool.false_eq_true, if_false]
    split
    · exact absurd ⟨rfl, rfl⟩ n1
    · exact absurd ⟨rfl, rfl⟩ (n2 _ _)
    · rfl
theorem guard_nil {op : BinOp} {t : TypeId} {X Y : Operand} (hc : (isConstOp X || isConstOp Y) = true) (w : World) : (eqGuard op t X Y .nilIface .nilIface).run P w = .ok () w := by
  cases op <;> first | rfl | skip
  all_goals
    cases X <;> cases Y <;> first | rfl | (simp [isConstOp] at hc)
theorem guard_agg {op : BinOp} {t : TypeId} {X Y : Operand} {a b : Array Value} (hc : P.eqGuardType P.depth t = false) (w : World) : (eqGuard op t X Y (.agg a) (.agg b)).run P w = .ok () w := by
  cases op <;> first | rfl | skip
  all_goals simp [eqGuard, Sem.run_bind, hc]
theorem guard_run {op : BinOp} {t : TypeId} {X Y : Operand} {x y x' y' : Value} (hg : guardOk P t X Y x y = true) (hx : VR φ x x') (hy : VR φ y y') (w : World) : (eqGuard op t X Y x' y').run P w = .ok () w := by
  unfold guardOk at hg
  split at hg
  · have := hx.flat_inv rfl; subst this; have := hy.flat_inv rfl; subst this
    exact guard_nil hg w
  · obtain ⟨X', rfl, hX⟩ := hx.agg_inv
    obtain ⟨Y', rfl, hY⟩ := hy.agg_inv
    exact guard_agg (by simpa using hg) w
  · cases hg
  · cases hg
  · apply guard_skip
    · intro ⟨ha, hb⟩
      subst ha hb
      cases hx <;> cases hy <;> simp_all
    · intro a b ⟨ha, hb⟩
      subst ha hb
      cases hx <;> cases hy <;> simp_all
/-- '==' and '!=' of what are no numbers and no texts. -/
theorem binOp_eq {t : TypeId} {x y : Value} (i1 : ∀ k a k' b, ¬ (x = .int k a ∧ y = .int k' b)) (i2 : ∀ a b, ¬ (x = .string a ∧ y = .string b)) (i3 : ∀ k a k' b, ¬ (x = .float k a ∧ y = .float k' b)) (i4 : ∀ k a c k' b d, ¬ (x = .complex k a c ∧ y = .complex k' b d)) :
    binOp .eql t x y = (do pure (.bool (← Op.equal t x y))) ∧ binOp .neq t x y = (do pure (.bool (!(← Op.equal t x y)))) := by
  cases x <;> cases y <;> first | exact ⟨rfl, rfl⟩ | exact absurd ⟨rfl, rfl⟩ (i1 _ _ _ _) | exact absurd ⟨rfl, rfl⟩ (i2 _ _) | exact absurd ⟨rfl, rfl⟩ (i3 _ _ _ _) | exact absurd ⟨rfl, rfl⟩ (i4 _ _ _ _ _ _)
theorem abin_ok {op : BinOp} {t : TypeId} {X Y : Operand} {x y x' y' v : Value} (s : Sim G φ h w) (hv : abin P op t X Y x y = some v) (hx : VR φ x x') (hy : VR φ y y') :
    OpOk G P (do eqGuard op t X Y x' y'; binOp op t x' y') φ h w v h := by
  unfold abin at hv
  split at hv
  · have := hx.flat_inv rfl; subst this; have := hy.flat_inv rfl; subst this
    obtain ⟨r, d⟩ := prunF_run hv w
    refine .still s (v' := v) ?_ (VR.deep_self d)
    rw [Sem.run_bind, show (eqGuard op t X Y (.int _ _) (.int _ _)).run P w = .ok () w from by unfold eqGuard; split <;> rfl]
    exact r
  · have := hx.flat_inv rfl; subst this; have := hy.flat_inv rfl; subst this
    obtain ⟨r, d⟩ := prunF_run hv w
    refine .still s (v' := v) ?_ (VR.deep_self d)
    rw [Sem.run_bind, show (eqGuard op t X Y (.string _) (.string _)).run P w = .ok () w from by unfold eqGuard; split <;> rfl]
    exact r
  · rename_i ni ns
    split at hv
    case isFalse => cases hv
    rename_i hg
    have hgr := guard_run (P := P) (op := op) hg hx hy w
    have hshape : ∀ {r : Bool}, aeq P Op.maxDepth t x y = some r → (∀ k a k' b, ¬ (x' = .int k a ∧ y' = .int k' b)) ∧ (∀ a b, ¬ (x' = .string a ∧ y' = .string b)) ∧ (∀ k a k' b, ¬ (x' = .float k a ∧ y' = .float k' b)) ∧ (∀ k a c k' b d, ¬ (x' = .complex k a c ∧ y' = .complex k' b d)) := by
      intro r he
      have hmd : Op.maxDepth = (Op.maxDepth - 1) + 1 := by rfl
      rw [hmd] at he
      refine ⟨?_, ?_, ?_, ?_⟩
      · rintro k a k' b ⟨rfl, rfl⟩
        cases hx with
        | any => simp [aeq] at he
        | flt _ _ => cases hy with
          | any => simp [aeq] at he
          | flt _ _ => exact ni _ _ _ _ rfl rfl
      · rintro a b ⟨rfl, rfl⟩
        cases hx with
        | any => simp [aeq] at he
        | flt _ _ => cases hy with
          | any => simp [aeq] at he
          | flt _ _ => exact ns _ _ rfl rfl
      · rintro k a k' b ⟨rfl, rfl⟩
        cases hx with
        | any => simp [aeq] at he
        | flt _ _ => simp [aeq] at he
      · rintro k a c k' b d ⟨rfl, rfl⟩
        cases hx with
        | any => simp [aeq] at he
        | flt _ _ => simp [aeq] at he
    split at hv
    · simp only [Option.map_eq_some_iff] at hv
      obtain ⟨r, he, rfl⟩ := hv
      refine .still s (v' := .bool r) ?_ (.flt _ rfl)
      obtain ⟨i1, i2, i3, i4⟩ := hshape he
      have := aeq_ok (w := w) _ _ _ _ _ _ _ he hx hy
      rw [Sem.run_bind, hgr]
      simp only [Result.andThen_ok, (binOp_eq (t := t) i1 i2 i3 i4).1, (binOp_eq (t := t) i1 i2 i3 i4).2]
      simp only [Op.equal, Sem.run_bind, this, Result.andThen_ok]; rfl
    · simp only [Option.map_eq_some_iff] at hv
      obtain ⟨r, he, rfl⟩ := hv
      refine .still s (v' := .bool (!r)) ?_ (.flt _ rfl)
      obtain ⟨i1, i2, i3, i4⟩ := hshape he
      have := aeq_ok (w := w) _ _ _ _ _ _ _ he hx hy
      rw [Sem.run_bind, hgr]
      simp only [Result.andThen_ok, (binOp_eq (t := t) i1 i2 i3 i4).1, (binOp_eq (t := t) i1 i2 i3 i4).2]
      simp only [Op.equal, Sem.run_bind, this, Result.andThen_ok]; rfl
    · cases hv

end
end Go.Proofs.Ytnhnelhcipafeaa.Ab
