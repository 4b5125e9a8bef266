/- What kinds of operations there are. -/
import Derived.Test.YtajcniofkpifaaaDenC
set_option linter.unusedSectionVars false
set_option linter.unusedVariables false
set_option linter.unusedSimpArgs false
namespace Den
open Go
variable [GTab]

def AO.still : AO → Bool
  | .mv .. | .pick .. | .build .. | .ld .. | .nilc .. | .bin .. | .eqb .. | .eqn .. | .eqs .. | .un .. | .cvi .. | .cvn .. | .cvs .. | .slc .. | .sls .. | .fld .. | .ixa .. | .ixs ..
  | .ixv .. | .fdv .. | .ext .. | .len .. | .mx .. | .lkp .. | .mkf .. | .mki .. | .mkv .. | .tas .. => true
  | _ => false

/-- What kind of operation it is: it leaves the memory as it is; makes memory; changes it; calls. -/
inductive Cls where
  | still | new | eff | call
  deriving DecidableEq

def AO.cls (o : AO) : Cls :=
  if o.isCall then .call else if o.still then .still else
    match o with
    | .alloc .. | .box .. | .bslice .. | .mks .. | .mkm .. => .new
    | _ => .eff

theorem cbin_cls {P : Program} {op t x y ao} (h : cbin P op t x y = some ao) : ao.cls = .still := by
  unfold cbin at h
  split at h
  · unfold cbinD at h
    split at h
    · cases h; rfl
    · cases h; rfl
    · simp only [Option.map_eq_some_iff] at h; obtain ⟨_, _, rfl⟩ := h; rfl
    · unfold cstruct at h
      split at h
      · split at h
        · cases h; rfl
        · cases h
      · cases h
    · split at h
      · unfold cnil at h
        split at h
        · split at h
          · cases h; rfl
          · split at h
            · cases h; rfl
            · cases h
        · cases h
      · cases h
  · cases h

theorem cconv_cls {P : Program} {s d x ao} (h : cconv P s d x = some ao) : ao.cls = .still ∨ ∃ y, ao = .cvb y := by
  unfold cconv at h
  split at h
  · cases h; exact .inl rfl
  · cases h; exact .inl rfl
  · split at h
    · cases h; exact .inl rfl
    · cases h
  · split at h
    · cases h; exact .inr ⟨_, rfl⟩
    · cases h
  · cases h

theorem ccall_cls {P : Program} {ob c ao} (h : ccall P ob c = some ao) : ao.cls = .call ∨ ao.cls = .still ∨ (∃ a b c d e, ao = .app a b c d e) ∨ (∃ a b c, ao = .cpy a b c) ∨ ∃ a b, ao = .clr a b := by
  unfold ccall at h
  split at h
  · cases h
  · split at h
    · cases h; exact .inl rfl
    · cases h; exact .inl rfl
    · cases h
    · simp only [Option.map_eq_some_iff] at h; obtain ⟨_, _, rfl⟩ := h; exact .inl rfl
    · simp only at h
      split at h
      · split at h <;> cases h <;> exact .inr (.inl rfl)
      · split at h
        · unfold capp at h; split at h <;> first | (split at h <;> cases h; exact .inr (.inr (.inl ⟨_, _, _, _, _, rfl⟩))) | cases h
        · unfold capp at h; split at h <;> first | (split at h <;> cases h; exact .inr (.inr (.inl ⟨_, _, _, _, _, rfl⟩))) | cases h
        · cases h
      · split at h
        · split at h <;> cases h; exact .inr (.inr (.inr (.inl ⟨_, _, _, rfl⟩)))
        · cases h
      · split at h
        · simp only [Option.map_eq_some_iff] at h; obtain ⟨_, _, rfl⟩ := h; exact .inr (.inr (.inr (.inr ⟨_, _, rfl⟩)))
        · cases h
      · cases h; exact .inr (.inl rfl)
      · cases h; exact .inr (.inl rfl)
      · cases h

/-- What an operation becomes, by what it is. -/
theorem cop_cls {P : Program} {fc : FC} {o : Oper} {ao : AO} (h : cop P fc o = some ao) :
    match o.op with
    | .alloc .. | .box .. | .buildSlice .. | .makeSlice .. | .makeMap .. => ao.cls = .new
    | .store .. => ∃ a b c, ao = .st a b c
    | .mapUpdate .. => ∃ a b c d, ao = .mup a b c d
    | .convert .. => ao.cls = .still ∨ ∃ y, ao = .cvb y
    | .call _ => ao.cls = .call ∨ ao.cls = .still ∨ (∃ a b c d e, ao = .app a b c d e) ∨ (∃ a b c, ao = .cpy a b c) ∨ ∃ a b, ao = .clr a b
    | _ => ao.cls = .still := by
  obtain ⟨dst, op, type, pos, after, guard⟩ := o
  cases op <;> simp only [cop] at h <;> simp only <;> try (cases h; done)
  all_goals (try (simp only [Option.map_eq_some_iff, Option.bind_eq_some_iff] at h))
  all_goals (try (obtain ⟨_, _, rfl⟩ := h; rfl))
  case convert => obtain ⟨_, _, h⟩ := h; exact cconv_cls h
  case binOp => exact cbin_cls h
  case call => exact ccall_cls h
  case slice t x lo hi mx =>
    cases mx with
    | some m => cases h
    | none =>
      simp only at h
      split at h
      · split at h
        · simp only [Option.map_eq_some_iff] at h; obtain ⟨_, _, rfl⟩ := h; rfl
        · simp only [Option.map_eq_some_iff] at h; obtain ⟨_, _, rfl⟩ := h; rfl
        · cases h; rfl
        · cases h
      · cases h
  case makeMap t r =>
    cases r with
    | some m => cases h
    | none =>
      simp only at h
      split at h
      · cases h; rfl
      · cases h
  case makeFunc fn first caps =>
    cases fn <;> simp only at h <;> try (cases h; done)
    · split at h
      · simp only [Option.map_eq_some_iff] at h; obtain ⟨_, _, rfl⟩ := h; rfl
      · cases h
    · split at h
      · split at h
        · simp only [Option.map_eq_some_iff] at h; obtain ⟨_, _, rfl⟩ := h; rfl
        · cases h
      · cases h
  all_goals
    (repeat' (split at h))
  all_goals (try (cases h; done))
  all_goals (try (cases h; rfl))
  all_goals (try (cases h; exact ⟨_, _, _, rfl⟩))
  all_goals (try (cases h; exact ⟨_, _, _, _, rfl⟩))
  all_goals (try (simp only [Option.map_eq_some_iff] at h; obtain ⟨_, _, rfl⟩ := h; rfl))
  all_goals (try (simp only [Option.bind_eq_some_iff, Option.map_eq_some_iff] at h; obtain ⟨_, _, _, _, rfl⟩ := h; rfl))

end Den
