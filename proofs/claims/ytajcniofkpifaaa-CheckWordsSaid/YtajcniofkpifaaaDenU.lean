/- Results, out of a function's frame. -/
import Derived.Test.YtajcniofkpifaaaDenT
set_option linter.unusedSectionVars false
set_option linter.unusedVariables false
set_option linter.unusedSimpArgs false
namespace Den
open Go
variable [GTab]

section
variable {P : Program} {g g' : Gh} {O O' : List ABlk} {S S' : List (List ABlk)} {w w' : World} {lim : Nat}

theorem gm_own (hS : S ≠ []) (O : List ABlk) (k : Nat) : gm [] S S.length k = gm O S S.length k := by
  have := List.length_pos_iff.2 hS
  obtain ⟨n, hn⟩ : ∃ n, S.length = n + 1 := ⟨S.length - 1, by omega⟩
  rw [hn]; rfl

/-- A slice over a block of the frame, taken along. -/
theorem snap_block (h : Sim g O S w) (_hS : S ≠ []) {k c : Nat} {cs : List AV} {vs : Array Value} {len cap : Nat} (hr : g.ρ S.length k = .at c) (hc : Cells w c vs) (hsz : cs.length ≤ vs.size)
    (hv : ∀ (i : Nat) (a : AV), cs[i]? = some a → a.one = true ∧ ∃ v, vs[i]? = some v ∧ VR g O S w (S.length + 1) a v) (hl : cs.all (AV.low 0) = true) (hle : len ≤ cap) :
    VR (g.pop w S.length) O S.dropLast w S.length (.isl cs len) (.slice (some ⟨c, 0, none⟩) len cap) := by
  obtain ⟨ty, fr, h1, h2⟩ := hc
  have hown := (h.own _ _ _).1 hr
  refine .isl (fun i => vs.getD i undef) hle (fun i hi => ?_) (fun _ => .inr ⟨sizeW w c, ?_, ?_⟩) (fun i a ha => ?_) (fun i a ha => (hv i a ha).1)
  · have hi' : i < vs.size := by omega
    have := h2 i hi'
    simp only [World.cell?, h1, Nat.zero_add]
    simp [Array.getD, hi']
  · simp only [Gh.pop, hown]
    rw [if_pos (Nat.le_refl _), if_neg (by simp)]
  · simp only [sizeW, h1]; omega
  · obtain ⟨_, v, q1, q2⟩ := hv i a ha
    have : vs.getD i undef = v := by rw [Array.getD_eq_getD_getElem?, q1]; rfl
    simp only [this]
    exact (q2.low (List.all_eq_true.1 hl a (List.mem_of_getElem? ha))).pop (Nat.zero_le _)

theorem snap1_sound (h : Sim g O S w) (hS : S ≠ []) {v v' : AV} {x : Value} (hv : VR g O S w (S.length + 1) v x) (hx : snap1 S v = some v') :
    VR (g.pop w S.length) O S.dropLast w S.length v' x ∧ (v.one = true → v'.one = true) := by
  have other : ∀ {u : AV}, v = u → u.low S.length = true → VR (g.pop w S.length) O S.dropLast w S.length u x := fun e hl => by
    subst e; exact (hv.low hl).pop (Nat.le_refl _)
  cases v with
  | sref d k off len cap =>
    cases hv with
    | sref hd hb hr hlc ha =>
      rename_i c a
      simp only [snap1] at hx
      split at hx
      · rename_i e
        subst e
        split at hx
        · rename_i h0
          cases hx; subst h0
          exact ⟨.isle, fun _ => rfl⟩
        · rename_i h0
          split at hx
          · rename_i cs hg
            split at hx
            · rename_i hcond
              cases hx
              obtain ⟨rfl, rfl, hl⟩ := hcond
              rw [gm_own hS O] at hg
              obtain ⟨vs, q1, q2, q3⟩ := h.blk _ _ _ _ hr hg
              rcases ha with ha | ha
              · exact absurd ha h0
              · subst ha
                exact ⟨snap_block h hS hr q1 (by omega) q3 hl hlc, fun _ => rfl⟩
            · cases hx
          · cases hx
      · rename_i e
        cases hx
        exact ⟨(VR.sref (lim := S.length) (by omega) hb hr hlc ha).pop (Nat.le_refl _), fun h => h⟩
  | bref d k off len tot =>
    cases hv with
    | bref hd hlc ha hb =>
      rename_i cap a
      simp only [snap1] at hx
      split at hx
      · rename_i e
        subst e
        split at hx
        · rename_i h0
          cases hx; subst h0
          exact ⟨.isle, fun _ => rfl⟩
        · rename_i h0
          split at hx
          · rename_i sz cs hg
            split at hx
            · rename_i hcond
              cases hx
              obtain ⟨e1, rfl, e2, hl⟩ := hcond
              rw [gm_own hS O] at hg
              obtain ⟨sz', cs', f1, f2, f3, f4⟩ := hb
              rw [hg] at f1; cases f1
              have f4 := f4 e1
              cases hr : g.ρ S.length k with
              | un => exact absurd hr f3
              | nil => rw [hr] at f4; simp only at f4; omega
              | «at» c =>
                rw [hr] at f4
                simp only at f4
                obtain ⟨vs, q1, q2, q3⟩ := h.blk _ _ _ _ hr hg
                rcases f4.1 with f5 | f5
                · omega
                · subst f5
                  exact ⟨snap_block h hS hr q1 q2 q3 hl hlc, fun _ => rfl⟩
            · cases hx
          · cases hx
      · rename_i e
        cases hx
        exact ⟨(VR.bref (lim := S.length) (by omega) hlc ha hb).pop (Nat.le_refl _), fun h => h⟩
  | agg cs => simp [snap1] at hx
  | tup cs => simp [snap1] at hx
  | _ =>
    simp only [snap1] at hx
    split at hx
    · rename_i hl; cases hx; exact ⟨other rfl hl, fun h => h⟩
    · cases hx

theorem snapL_spec : ∀ {cs cs' : List AV}, snapL S cs = some cs' → cs'.length = cs.length ∧ ∀ (i : Nat) (a' : AV), cs'[i]? = some a' → ∃ a, cs[i]? = some a ∧ snap1 S a = some a'
  | [], cs', h => by simp [snapL] at h; subst h; simp
  | c :: cs, cs', h => by
    simp only [snapL] at h
    split at h
    · rename_i v' r' h1 h2
      cases h
      obtain ⟨p, q⟩ := snapL_spec h2
      refine ⟨by simp [p], fun i a' ha => ?_⟩
      cases i with
      | zero => simp at ha; subst ha; exact ⟨c, rfl, h1⟩
      | succ i => exact q i a' (by simpa using ha)
    · cases h

theorem snap2_sound (h : Sim g O S w) (hS : S ≠ []) {v v' : AV} {x : Value} (hv : VR g O S w (S.length + 1) v x) (hx : snap2 S v = some v') :
    VR (g.pop w S.length) O S.dropLast w S.length v' x := by
  cases v with
  | agg cs =>
    simp only [snap2, Option.map_eq_some_iff] at hx
    obtain ⟨cs', h1, rfl⟩ := hx
    obtain ⟨p, q⟩ := snapL_spec h1
    cases hv with
    | agg f hs hf hvv h1 =>
      refine .agg f (by omega) (fun i hi => hf i (by omega)) (fun i a' ha => ?_) (fun i a' ha => ?_)
      · obtain ⟨a, ha1, ha2⟩ := q i a' ha
        exact (snap1_sound h hS (hvv i a ha1) ha2).1
      · obtain ⟨a, ha1, ha2⟩ := q i a' ha
        exact (snap1_sound h hS (hvv i a ha1) ha2).2 (h1 i a ha1)
  | _ => exact (snap1_sound h hS hv hx).1

theorem snapT_spec : ∀ {cs cs' : List AV}, snapT S cs = some cs' → cs'.length = cs.length ∧ ∀ (i : Nat) (a' : AV), cs'[i]? = some a' → ∃ a, cs[i]? = some a ∧ snap2 S a = some a'
  | [], cs', h => by simp [snapT] at h; subst h; simp
  | c :: cs, cs', h => by
    simp only [snapT] at h
    split at h
    · rename_i v' r' h1 h2
      cases h
      obtain ⟨p, q⟩ := snapT_spec h2
      refine ⟨by simp [p], fun i a' ha => ?_⟩
      cases i with
      | zero => simp at ha; subst ha; exact ⟨c, rfl, h1⟩
      | succ i => exact q i a' (by simpa using ha)
    · cases h

theorem snap_sound (h : Sim g O S w) (hS : S ≠ []) {v v' : AV} {x : Value} (hv : VR g O S w (S.length + 1) v x) (hx : snap S v = some v') :
    VR (g.pop w S.length) O S.dropLast w S.length v' x := by
  cases v with
  | tup cs =>
    simp only [snap, Option.map_eq_some_iff] at hx
    obtain ⟨cs', h1, rfl⟩ := hx
    obtain ⟨p, q⟩ := snapT_spec h1
    cases hv with
    | tup f hs hf hvv =>
      refine .tup f (by omega) (fun i hi => hf i (by omega)) (fun i a' ha => ?_)
      obtain ⟨a, ha1, ha2⟩ := q i a' ha
      exact snap2_sound h hS (hvv i a ha1) ha2
  | _ => exact snap2_sound h hS hv hx

/-! ### A slice that moves to the caller's frame -/

theorem Mon.adopt (_h : Sim g O S w) {d k c : Nat} (hu : g.ρ d k = .un) (hσ : g.σ c = .garb) :
    Mon g O S w (g.addAt d k c) O S w where
  io := ⟨rfl, rfl⟩
  base := rfl
  size := Nat.le_refl _
  old _ _ := rfl
  imm c' m hm := by
    refine ⟨m, Nat.le_refl _, ?_, fun i _ => rfl⟩
    simp only [Gh.addAt]; rw [if_neg (by rintro rfl; rw [hσ] at hm; cases hm)]; exact hm
  blk d' k' b hb := ⟨b, hb, fun hu' => by
    have hne : ¬ (d' = d ∧ k' = k) := by rintro ⟨rfl, rfl⟩; exact hu' hu
    cases b <;> simp only [BE, Gh.addAt, if_neg hne]
    · exact ⟨trivial, trivial⟩
    · exact ⟨trivial, Nat.le_refl _, hu', fun _ => ⟨trivial, fun _ _ _ hs => hs⟩⟩⟩

theorem Sim.adopt (h : Sim g O S w) {d k c : Nat} {b : ABlk} (hu : g.ρ d k = .un) (hb : gm O S d k = some b) (hσ : g.σ c = .garb) (hc : g.base ≤ c) (hlt : c < w.heap.size) (hbr : BR g O S w d b c) :
    Sim (g.addAt d k c) O S w := by
  have hm := Mon.adopt h hu hσ
  refine ⟨h.base_le, fun c' hc' => ?_, fun c' hc' => ?_, fun d' k' c' => ?_, fun d' k' hr => ?_, fun d' k' c' b' hr hb' => ?_, fun d' k' hr => ?_, h.glob.mono hm⟩
  · simp only [Gh.addAt]; rw [if_neg (by omega)]; exact h.fresh c' hc'
  · simp only [Gh.addAt] at hc' ⊢; rw [if_neg (by omega)]; exact h.low c' hc'
  · simp only [Gh.addAt]
    by_cases e : c' = c
    · subst e
      simp only [if_true]
      by_cases e2 : d' = d ∧ k' = k
      · obtain ⟨rfl, rfl⟩ := e2; simp
      · rw [if_neg e2]
        constructor
        · intro hr; have := (h.own d' k' c').1 hr; rw [hσ] at this; cases this
        · intro hr; simp at hr; exact absurd ⟨hr.1.symm, hr.2.symm⟩ e2
    · rw [if_neg e]
      by_cases e2 : d' = d ∧ k' = k
      · obtain ⟨rfl, rfl⟩ := e2
        simp only [and_self, if_true]
        constructor
        · intro hr; simp at hr; exact absurd hr.symm e
        · intro hr; have := (h.own d' k' c').2 hr; rw [hu] at this; cases this
      · rw [if_neg e2]; exact h.own d' k' c'
  · by_cases e2 : d' = d ∧ k' = k
    · obtain ⟨rfl, rfl⟩ := e2; rw [hb]; rfl
    · simp only [Gh.addAt, if_neg e2] at hr; exact h.dom d' k' hr
  · by_cases e2 : d' = d ∧ k' = k
    · obtain ⟨rfl, rfl⟩ := e2
      simp only [Gh.addAt, and_self, if_true, Loc.at.injEq] at hr
      subst hr
      rw [hb] at hb'
      cases hb'
      exact hbr.mono hm rfl
    · simp only [Gh.addAt, if_neg e2] at hr
      exact (h.blk d' k' c' b' hr hb').mono hm rfl
  · by_cases e2 : d' = d ∧ k' = k
    · obtain ⟨rfl, rfl⟩ := e2; simp [Gh.addAt] at hr
    · simp only [Gh.addAt, if_neg e2] at hr; exact h.nilb d' k' hr

/-- How a value comes out of a frame into the caller's: the ghosts thereafter. -/
theorem move1_sound (h : Sim g O S w) (hS : S ≠ []) {v v' : AV} {x : Value} {Sb : List (List ABlk)} (hv : VR g O S w (S.length + 1) v x) (hx : move1 S S.dropLast v = some (v', Sb)) :
    ∃ X g', Sim g' O Sb w ∧ Evo (g.pop w S.length X) O S.dropLast w g' O Sb w ∧ VR g' O Sb w S.length v' x := by
  have other : ∀ {u : AV}, snap2 S v = some u → Sb = S.dropLast → v' = u → ∃ X g', Sim g' O Sb w ∧ Evo (g.pop w S.length X) O S.dropLast w g' O Sb w ∧ VR g' O Sb w S.length v' x := fun e1 e2 e3 => by
    subst e2; subst e3
    exact ⟨none, _, h.pop hS, .refl .., snap2_sound h hS hv e1⟩
  cases v with
  | bref d k off len tot =>
    simp only [move1] at hx
    cases hv with
    | bref hd hlc ha hb =>
      rename_i cap a
      split at hx
      · rename_i e
        subst e
        split at hx
        · rename_i sz cs hg
          split at hx
          · rename_i hcond
            cases hx
            obtain ⟨e1, rfl, e2, hne, hl⟩ := hcond
            rw [gm_own hS O] at hg
            obtain ⟨sz', cs', f1, f2, f3, f4⟩ := hb
            rw [hg] at f1; cases f1
            have f4 := f4 e1
            have hSb : S.dropLast ≠ [] := fun h0 => hne (by rw [h0]; rfl)
            have hlen : S.dropLast.length = S.length - 1 := by simp
            have hpos := List.length_pos_iff.2 hS
            have hnewS : S.dropLast.modify (S.dropLast.length - 1) (· ++ [.buf sz cs]) = newS S.dropLast false (.buf sz cs) := rfl
            have hnewO : O = newO O false (.buf sz cs) := rfl
            have hnd : S.dropLast.length = newD S.dropLast false := rfl
            have hnk : (S.dropLast.getLastD []).length = newK O S.dropLast false := rfl
            rw [hnewS]
            cases hr : g.ρ S.length k with
            | un => exact absurd hr f3
            | nil =>
              rw [hr] at f4
              obtain ⟨f5, f6⟩ := f4
              subst f5
              obtain ⟨s1, s2⟩ := (h.pop (X := none) hS).new_nil hSb false sz
              refine ⟨none, _, s1, s2, ?_⟩
              rw [hnd, hnk]
              have hself : gm (newO O false (.buf sz [])) (newS S.dropLast false (.buf sz [])) (newD S.dropLast false) (newK O S.dropLast false) = some (.buf sz []) := by rw [gm_new hSb]; simp
              refine .bref (by rw [← hnd]; omega) hlc ha ⟨sz, [], hself, by simpa using f2, by simp [Gh.addNil], fun _ => ?_⟩
              simp only [Gh.addNil, and_self, if_true]
              exact ⟨trivial, f6⟩
            | «at» c =>
              rw [hr] at f4
              simp only at f4
              have hown := (h.own _ _ _).1 hr
              have hp := h.pop (X := some c) hS
              have hbr := h.blk _ _ _ _ hr hg
              have hself : gm (newO O false (.buf sz cs)) (newS S.dropLast false (.buf sz cs)) (newD S.dropLast false) (newK O S.dropLast false) = some (.buf sz cs) := by rw [gm_new hSb]; simp
              have hun : (g.pop w S.length (some c)).ρ (newD S.dropLast false) (newK O S.dropLast false) = .un := hp.isSome_of (gm_newSelf hSb)
              have hg1 := hp.grow hSb false (.buf sz cs)
              have hgar : (g.pop w S.length (some c)).σ c = .garb := by simp only [Gh.pop, hown]; simp
              have hbr' : BR (g.pop w S.length (some c)) (newO O false (.buf sz cs)) (newS S.dropLast false (.buf sz cs)) w (newD S.dropLast false) (.buf sz cs) c := by
                obtain ⟨vs, q1, q2, q3⟩ := hbr
                refine ⟨vs, q1, q2, fun i a' ha' => ⟨(q3 i a' ha').1, ?_⟩⟩
                obtain ⟨y, y1, y2⟩ := (q3 i a' ha').2
                refine ⟨y, y1, ?_⟩
                have := (y2.low (List.all_eq_true.1 hl a' (List.mem_of_getElem? ha'))).pop (X := some c) (by rw [hlen]; omega)
                rw [← hnd]
                exact this.mono (Mon.grow hSb false _)
              refine ⟨some c, _, hg1.adopt hun hself hgar (h.at_lt hr).1 (h.at_lt hr).2 hbr', ⟨(Mon.grow hSb false _).trans (Mon.adopt hg1 hun hgar), newS_length, fun d' k' b' hu hb' => ?_⟩, ?_⟩
              · have hne' : ¬ (d' = newD S.dropLast false ∧ k' = newK O S.dropLast false) := by rintro ⟨rfl, rfl⟩; rw [gm_newSelf hSb] at hb'; cases hb'
                exact ⟨by have := gm_new (O := O) hSb (obj := false) (.buf sz cs) d' k'; rw [if_neg hne'] at this; exact this.trans hb', by simp only [Gh.addAt, if_neg hne']; exact hu⟩
              · rw [hnd, hnk]
                refine .bref (by rw [← hnd]; omega) hlc ha ⟨sz, cs, hself, f2, by simp [Gh.addAt], fun _ => ?_⟩
                simp only [Gh.addAt, and_self, if_true]
                exact f4
          · cases hx
        · cases hx
      · rename_i e
        cases hx
        refine ⟨none, _, h.pop hS, .refl .., ?_⟩
        exact (VR.bref (lim := S.length) (by omega) hlc ha hb).pop (Nat.le_refl _)
  | _ =>
    simp only [move1, Option.map_eq_some_iff, Prod.mk.injEq] at hx
    obtain ⟨u, h1, h2, h3⟩ := hx
    exact other h1 h3.symm h2.symm

theorem moveV_sound (h : Sim g O S w) (hS : S ≠ []) {v v' : AV} {x : Value} {Sb : List (List ABlk)} (hv : VR g O S w (S.length + 1) v x) (hx : moveV S v = some (v', Sb)) :
    ∃ X g', Sim g' O Sb w ∧ Evo (g.pop w S.length X) O S.dropLast w g' O Sb w ∧ VR g' O Sb w S.length v' x := by
  cases v with
  | tup cs =>
    cases cs with
    | nil => simp [moveV] at hx
    | cons a r =>
      simp only [moveV] at hx
      split at hx
      · rename_i a' Sb' h1
        split at hx
        · rename_i hl
          cases hx
          cases hv with
          | tup f hs hf hvv =>
            obtain ⟨X, g', s1, s2, s3⟩ := move1_sound h hS (hvv 0 a rfl) h1
            refine ⟨X, g', s1, s2, .tup f (by simpa using hs) (fun i hi => hf i (by simpa using hi)) (fun i b hb => ?_)⟩
            cases i with
            | zero => simp at hb; subst hb; exact s3
            | succ i =>
              have hb' : r[i]? = some b := by simpa using hb
              have := hvv (i + 1) b (by simpa using hb')
              exact ((this.low (List.all_eq_true.1 hl b (List.mem_of_getElem? hb'))).pop (X := X) (Nat.le_refl _)).mono s2.mon
        · cases hx
      · cases hx
  | _ => exact move1_sound h hS hv hx

end
end Den
