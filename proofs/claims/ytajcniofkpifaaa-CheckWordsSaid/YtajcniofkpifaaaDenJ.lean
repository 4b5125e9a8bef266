/- Single operations that leave the memory as it is: arithmetic, comparisons, conversions. -/
import Derived.Test.YtajcniofkpifaaaDenI
import Derived.Laws.Strings
set_option linter.unusedSectionVars false
set_option linter.unusedVariables false
set_option linter.unusedSimpArgs false
namespace Den
open Go
variable [GTab]

section
variable {P : Program} {g : Gh} {O : List ABlk} {S : List (List ABlk)} {w : World} {lim : Nat}

theorem bytesLess_eq : ∀ a b, Op.bytesLess a b = bytesLess a b
  | [], [] => rfl
  | [], _ :: _ => rfl
  | _ :: _, [] => rfl
  | a :: x, b :: y => by simp [Op.bytesLess, bytesLess, bytesLess_eq x y]

theorem run_guard_scalar (op : BinOp) (t : TypeId) (X Y : Operand) {a b : Value} (h : (∃ k n, a = .int k n) ∨ (∃ s, a = .string s) ∨ ∃ s, a = .bool s) :
    (eqGuard op t X Y a b).run P w = .ok () w := by
  rcases h with ⟨k, n, rfl⟩ | ⟨s, rfl⟩ | ⟨s, rfl⟩ <;> (unfold eqGuard; cases op <;> cases b <;> rfl)

theorem run_bin_sound {op : BinOp} {t : TypeId} {X Y : Operand} {x y r : AV} {v u : Value} (hr : bin op x y = some r) (hx : VR g O S w lim x v) (hy : VR g O S w lim y u) :
    ∃ v', (do eqGuard op t X Y v u; binOp op t v u : Sem Value).run P w = .ok v' w ∧ VR g O S w lim r v' := by
  cases x <;> cases y <;> simp only [bin] at hr <;> try (cases hr; done)
  case int.int k a k' b =>
    cases hx; cases hy
    simp only [Sem.run_bind, run_guard_scalar op t X Y (.inl ⟨k, a, rfl⟩), Result.andThen_ok]
    cases op <;> simp only [binI] at hr
    case shl =>
      split at hr
      · cases hr
      · rename_i h; simp at hr; subst hr
        exact ⟨_, by simp only [binOp, Op.shift, if_neg h]; rfl, .int⟩
    case shr =>
      split at hr
      · cases hr
      · rename_i h; simp at hr; subst hr
        exact ⟨_, by simp only [binOp, Op.shift, if_neg h]; rfl, .int⟩
    case quo =>
      split at hr
      · rename_i hk; subst hk
        split at hr
        · cases hr
        · rename_i h0
          cases hr
          exact ⟨_, by simp only [binOp, Op.intDiv, ne_eq, not_true_eq_false, if_false, if_neg h0]; rfl, .int⟩
      · cases hr
    case rem =>
      split at hr
      · rename_i hk; subst hk
        split at hr
        · cases hr
        · rename_i h0
          cases hr
          exact ⟨_, by simp only [binOp, Op.intDiv, ne_eq, not_true_eq_false, if_false, if_neg h0]; rfl, .int⟩
      · cases hr
    all_goals
      split at hr
      · rename_i hk
        subst hk
        try (simp at hr; done)
        try
          (cases hr
           refine ⟨_, by simp only [binOp, Op.intArith, Op.intBits, Op.intCmp, ne_eq, not_true_eq_false, if_false]; rfl, ?_⟩
           first | exact .int | exact .bool)
      · cases hr
  case str.str a b =>
    cases hx; cases hy
    simp only [Sem.run_bind, run_guard_scalar op t X Y (.inr (.inl ⟨_, rfl⟩)), Result.andThen_ok]
    cases op <;> simp only [binS] at hr <;> try (cases hr; done)
    case add =>
      split at hr
      · cases hr
      · rename_i h
        simp at hr; subst hr
        refine ⟨.string ⟨(a ++ b).toArray⟩, ?_, .str⟩
        simp only [binOp, Op.stringOp]
        rw [if_neg (by simpa [ByteArray.size] using h)]
        have : (ByteArray.mk a.toArray ++ ByteArray.mk b.toArray) = ByteArray.mk (a ++ b).toArray := by
          apply ByteArray.ext
          simp [ByteArray.data_append]
        rw [this]
        rfl
    all_goals
      cases hr
      refine ⟨_, by simp only [binOp, Op.stringOp, ByteArray.toList_mk, bytesLess_eq]; rfl, .bool⟩

theorem run_equal_bool {t : TypeId} (hu : P.underlying t = some .bool) (a b : Bool) : (Op.equal t (.bool a) (.bool b)).run P w = .ok (a == b) w := by
  unfold Op.equal Op.maxDepth Op.equalIn
  simp only [Sem.run_bind, run_underlying_D hu, Result.andThen_ok]
  rfl

theorem run_eqb_sound {neg : Bool} {t : TypeId} {X Y : Operand} {a b : Bool} (hu : P.underlying t = some .bool) :
    (do eqGuard (if neg then .neq else .eql) t X Y (.bool a) (.bool b); binOp (if neg then .neq else .eql) t (.bool a) (.bool b) : Sem Value).run P w = .ok (.bool (if neg then !(a == b) else (a == b))) w := by
  simp only [Sem.run_bind, run_guard_scalar _ t X Y (.inr (.inr ⟨a, rfl⟩)), Result.andThen_ok]
  cases neg <;> simp [binOp, run_equal_bool hu, pure, Sem.run]

def nilOf : NK → Value
  | .ptr => .pointer none
  | .slice => .slice none 0 0
  | .map => .map none
  | .iface => .nilIface
  | .func => .nilFunc

theorem isNilK_spec {k : NK} {X : Operand} (h : isNilK k X = true) : X = .const (nilOf k) := by
  unfold isNilK at h
  split at h <;> first | rfl | cases h

theorem negOf_spec {op : BinOp} {b : Bool} (h : negOf op = some b) : op = (if b then .neq else .eql) := by
  unfold negOf at h
  split at h <;> simp at h <;> subst h <;> rfl

theorem run_equal_nil {t : TypeId} {d : TypeDesc} {k : NK} (hu : P.underlying t = some d) (hk : nkOf d = some k) {x : AV} {v : Value} (hx : VR g O S w lim x v) {b : Bool}
    (h : isNilA k x = some b) : (Op.equal t v (nilOf k)).run P w = .ok b w ∧ (Op.equal t (nilOf k) v).run P w = .ok b w := by
  unfold Op.equal Op.maxDepth Op.equalIn
  simp only [Sem.run_bind, run_underlying_D hu, Result.andThen_ok]
  cases d <;> simp [nkOf] at hk <;> subst hk <;> cases x <;> simp [isNilA] at h
  all_goals try (obtain ⟨h0, rfl⟩ := h)
  all_goals try subst h
  all_goals cases hx
  all_goals try (exact ⟨rfl, rfl⟩)
  all_goals try omega
  all_goals
    rename_i cap a hd hlc ha hb
    cases a with
    | none => have := ha (by omega); cases this
    | some a => exact ⟨rfl, rfl⟩

theorem run_guard_const (op : BinOp) (t : TypeId) {X Y : Operand} (hXY : (∃ c, X = .const c) ∨ ∃ c, Y = .const c) {v u : Value} (h : ∀ a b, v = .agg a → u = .agg b → False) :
    (eqGuard op t X Y v u).run P w = .ok () w := by
  unfold eqGuard
  cases (!(match op with | .eql | .neq => true | _ => false)) with
  | true => rfl
  | false =>
    simp only [Bool.false_eq_true, if_false]
    split
    · rcases hXY with ⟨c, rfl⟩ | ⟨c, rfl⟩
      · rfl
      · cases X <;> rfl
    · exact absurd (h _ _ rfl rfl) id
    · rfl

theorem run_eqn_sound {t : TypeId} {d : TypeDesc} {k : NK} {neg : Bool} {X Y : Operand} (hu : P.underlying t = some d) (hk : nkOf d = some k) {x : AV} {v u : Value}
    (hx : VR g O S w lim x v) {b : Bool} (h : isNilA k x = some b) (hXY : (∃ c, X = .const c) ∨ ∃ c, Y = .const c) (hu' : u = nilOf k) :
    (do eqGuard (if neg then .neq else .eql) t X Y v u; binOp (if neg then .neq else .eql) t v u : Sem Value).run P w = .ok (.bool (if neg then !b else b)) w ∧
    (do eqGuard (if neg then .neq else .eql) t X Y u v; binOp (if neg then .neq else .eql) t u v : Sem Value).run P w = .ok (.bool (if neg then !b else b)) w := by
  subst hu'
  obtain ⟨e1, e2⟩ := run_equal_nil hu hk hx h
  have hna : ∀ a b, v = .agg a → nilOf k = .agg b → False := by intro a b _ h2; cases k <;> cases h2
  have hnb : ∀ a b, nilOf k = .agg a → v = .agg b → False := by intro a b h2 _; cases k <;> cases h2
  have g1 : (eqGuard (if neg then .neq else .eql) t X Y v (nilOf k)).run P w = .ok () w := run_guard_const _ t hXY hna
  have g2 : (eqGuard (if neg then .neq else .eql) t X Y (nilOf k) v).run P w = .ok () w := run_guard_const _ t hXY hnb
  have q1 : ∀ op, (op = .eql ∨ op = .neq) → binOp op t v (nilOf k) = (if op = .neq then (do pure (.bool (!(← Op.equal t v (nilOf k))))) else (do pure (.bool (← Op.equal t v (nilOf k))))) := by
    intro op hop
    rcases hop with rfl | rfl <;> cases k <;> cases v <;> first | rfl | skip
    all_goals (cases hx <;> simp [isNilA] at h)
  have q2 : ∀ op, (op = .eql ∨ op = .neq) → binOp op t (nilOf k) v = (if op = .neq then (do pure (.bool (!(← Op.equal t (nilOf k) v)))) else (do pure (.bool (← Op.equal t (nilOf k) v)))) := by
    intro op hop
    rcases hop with rfl | rfl <;> cases k <;> cases v <;> first | rfl | skip
    all_goals (cases hx <;> simp [isNilA] at h)
  cases neg
  · simp only [Bool.false_eq_true, if_false] at g1 g2 ⊢
    simp only [Sem.run_bind, g1, g2, Result.andThen_ok, q1 .eql (.inl rfl), q2 .eql (.inl rfl), reduceCtorEq, if_false, e1, e2, pure, Sem.run]
    exact ⟨trivial, trivial⟩
  · simp only [if_true] at g1 g2 ⊢
    simp only [Sem.run_bind, g1, g2, Result.andThen_ok, q1 .neq (.inr rfl), q2 .neq (.inr rfl), if_true, e1, e2, pure, Sem.run]
    exact ⟨trivial, trivial⟩

end
end Den
