/- Changes of the memory, on both sides. -/
import Derived.Test.YtajcniofkpifaaaDenD
set_option linter.unusedSectionVars false
set_option linter.unusedVariables false
set_option linter.unusedSimpArgs false
namespace Den
open Go
variable [GTab]

/-! ### Where blocks are -/

theorem gm_new {O : List ABlk} {S : List (List ABlk)} {obj : Bool} (hS : S ≠ []) (b : ABlk) (d k : Nat) :
    gm (newO O obj b) (newS S obj b) d k = if d = newD S obj ∧ k = newK O S obj then some b else gm O S d k := by
  cases obj with
  | true =>
    simp only [newO, newS, newD, newK, if_true]
    cases d with
    | zero =>
      simp only [gm, true_and]
      by_cases h : k = O.length
      · subst h; simp
      · rw [if_neg h]
        rcases Nat.lt_or_ge k O.length with h' | h'
        · rw [List.getElem?_append_left h']
        · rw [List.getElem?_eq_none (by simp; omega), List.getElem?_eq_none h']
    | succ d => simp [gm]
  | false =>
    simp only [newO, newS, newD, newK, Bool.false_eq_true, if_false]
    have hpos : 0 < S.length := List.length_pos_iff.2 hS
    cases d with
    | zero => simp only [gm]; rw [if_neg (by omega)]
    | succ d =>
      simp only [gm, List.getElem?_modify]
      by_cases hd : d = S.length - 1
      · subst hd
        have hl : S.getLastD [] = S[S.length - 1] := by
          rw [List.getLastD_eq_getLast?, List.getLast?_eq_getElem?, List.getElem?_eq_getElem (by omega)]
          rfl
        have e1 : S[S.length - 1]? = some S[S.length - 1] := List.getElem?_eq_getElem (by omega)
        rw [hl, e1]
        generalize S[S.length - 1] = L
        have hd' : S.length - 1 + 1 = S.length := by omega
        have hf : ((fun a => if S.length - 1 = S.length - 1 then a ++ [b] else a) <$> some L) = some (L ++ [b]) := by simp
        rw [hf]
        simp only [Option.bind_some, hd', true_and]
        by_cases h : k = L.length
        · subst h; simp
        · rw [if_neg h]
          rcases Nat.lt_or_ge k L.length with h' | h'
          · rw [List.getElem?_append_left h']
          · rw [List.getElem?_eq_none (by simp; omega), List.getElem?_eq_none h']
      · rw [if_neg (by omega)]
        have : ¬ (S.length - 1 = d) := by omega
        simp [this]

theorem gm_newSelf {O : List ABlk} {S : List (List ABlk)} {obj : Bool} (hS : S ≠ []) : gm O S (newD S obj) (newK O S obj) = none := by
  cases obj with
  | true => simp [newD, newK, gm]
  | false =>
    have hpos : 0 < S.length := List.length_pos_iff.2 hS
    simp only [newD, newK, Bool.false_eq_true, if_false]
    obtain ⟨n, hn⟩ : ∃ n, S.length = n + 1 := ⟨S.length - 1, by omega⟩
    have e1 : S[n]? = some S[n] := List.getElem?_eq_getElem (by omega)
    have hl : S.getLastD [] = S[n] := by
      rw [List.getLastD_eq_getLast?, List.getLast?_eq_getElem?]
      simp [hn]
    rw [hn]
    simp only [gm, hl, e1, Option.bind_some]
    simp

theorem gm_set {O : List ABlk} {S : List (List ABlk)} {d k : Nat} {b0 : ABlk} (h : gm O S d k = some b0) (b : ABlk) (d' k' : Nat) :
    gm (smO O d k b) (smS S d k b) d' k' = if d' = d ∧ k' = k then some b else gm O S d' k' := by
  cases d with
  | zero =>
    simp only [smO, smS, if_true]
    cases d' with
    | zero =>
      simp only [gm, true_and, List.getElem?_set]
      simp only [gm] at h
      have hk : k < O.length := by
        rcases Nat.lt_or_ge k O.length with h' | h'
        · exact h'
        · rw [List.getElem?_eq_none h'] at h; cases h
      by_cases e : k' = k
      · subst e; simp [hk]
      · rw [if_neg e, if_neg (fun h => e h.symm)]
    | succ d' => simp [gm]
  | succ d =>
    simp only [smO, smS, Nat.add_one_ne_zero, if_false]
    cases d' with
    | zero => simp [gm]
    | succ d' =>
      simp only [gm, List.getElem?_modify]
      simp only [gm] at h
      by_cases e : d' = d
      · subst e
        cases hS : S[d']? with
        | none => rw [hS] at h; cases h
        | some L =>
          rw [hS] at h
          simp only [Option.bind_some] at h
          have hk : k < L.length := by
            rcases Nat.lt_or_ge k L.length with h' | h'
            · exact h'
            · rw [List.getElem?_eq_none h'] at h; cases h
          simp only [if_true, Option.map_eq_map, Option.map_some, Option.bind_some, List.getElem?_set, true_and]
          by_cases e : k' = k
          · subst e; simp [hk]
          · rw [if_neg e, if_neg (fun h => e h.symm)]
      · rw [if_neg (by omega)]
        have : ¬ d = d' := fun h => e h.symm
        simp [this]

theorem newS_length {S : List (List ABlk)} {obj : Bool} {b : ABlk} : (newS S obj b).length = S.length := by
  cases obj <;> simp [newS]
theorem smS_length {S : List (List ABlk)} {d k : Nat} {b : ABlk} : (smS S d k b).length = S.length := by
  cases d <;> simp [smS]

/-! ### What stays -/
section
variable {g g' : Gh} {O O' : List ABlk} {S S' : List (List ABlk)} {w w' : World}

theorem BR.mono (h : Mon g O S w g' O' S' w') {d : Nat} {b : ABlk} {c : Nat} (hc : w'.heap[c]? = w.heap[c]?) (hb : BR g O S w d b c) : BR g' O' S' w' d b c := by
  cases b with
  | arr cs =>
    obtain ⟨vs, ⟨ty, fr, h1, h2⟩, h3, h4⟩ := hb
    exact ⟨vs, ⟨ty, fr, hc.trans h1, h2⟩, h3, fun i a ha => ⟨(h4 i a ha).1, let ⟨v, p, q⟩ := (h4 i a ha).2; ⟨v, p, q.mono h⟩⟩⟩
  | buf sz cs =>
    obtain ⟨vs, ⟨ty, fr, h1, h2⟩, h3, h4⟩ := hb
    exact ⟨vs, ⟨ty, fr, hc.trans h1, h2⟩, h3, fun i a ha => ⟨(h4 i a ha).1, let ⟨v, p, q⟩ := (h4 i a ha).2; ⟨v, p, q.mono h⟩⟩⟩
  | map es =>
    obtain ⟨ms, ck, h1, h2, h3⟩ := hb
    refine ⟨ms, ck, hc.trans h1, h2, fun i a ha => ?_⟩
    obtain ⟨p1, p2, m, p3, p4, p5⟩ := h3 i a ha
    exact ⟨p1, p2, m, p3, p4.mono h, p5.mono h⟩

theorem BR.lt {d : Nat} {b : ABlk} {c : Nat} (hb : BR g O S w d b c) : c < w.heap.size := by
  have key : ∀ o, w.heap[c]? = some o → c < w.heap.size := fun o ho => by
    rcases Nat.lt_or_ge c w.heap.size with h | h
    · exact h
    · rw [Array.getElem?_eq_none h] at ho; cases ho
  cases b with
  | arr cs => obtain ⟨vs, ⟨ty, fr, h1, h2⟩, h3, h4⟩ := hb; exact key _ h1
  | buf sz cs => obtain ⟨vs, ⟨ty, fr, h1, h2⟩, h3, h4⟩ := hb; exact key _ h1
  | map es => obtain ⟨ms, ck, h1, h2, h3⟩ := hb; exact key _ h1

theorem Sim.at_lt (h : Sim g O S w) {d k c : Nat} (hr : g.ρ d k = .at c) : g.base ≤ c ∧ c < w.heap.size := by
  have hσ := (h.own d k c).1 hr
  constructor
  · rcases Nat.lt_or_ge c g.base with h' | h'
    · rw [h.low c h'] at hσ; cases hσ
    · exact h'
  · rcases Nat.lt_or_ge c w.heap.size with h' | h'
    · exact h'
    · rw [h.fresh c h'] at hσ; cases hσ

theorem Sim.inj (h : Sim g O S w) {d k d' k' c : Nat} (h1 : g.ρ d k = .at c) (h2 : g.ρ d' k' = .at c) : d = d' ∧ k = k' := by
  have a := (h.own d k c).1 h1
  have b := (h.own d' k' c).1 h2
  rw [a] at b
  simpa using b

theorem Sim.isSome_of (h : Sim g O S w) {d k : Nat} (hn : gm O S d k = none) : g.ρ d k = .un := by
  cases hr : g.ρ d k with
  | un => rfl
  | nil => have := h.dom d k (by rw [hr]; simp); rw [hn] at this; cases this
  | «at» c => have := h.dom d k (by rw [hr]; simp); rw [hn] at this; cases this

/-- A world with the same blocks. -/
theorem Mon.heap (e : w'.heap = w.heap) (ei : w'.os = w.os ∧ w'.output = w.output := by exact ⟨rfl, rfl⟩) : Mon g O S w g O S w' where
  io := ei
  base := rfl
  size := by rw [e]; exact Nat.le_refl _
  old c _ := by rw [e]
  imm c m h := ⟨m, Nat.le_refl _, h, fun i _ => by simp [World.cell?, e]⟩
  blk d k b h := ⟨b, h, fun h' => by cases b <;> simp [BE, h', Sized, e]⟩

theorem Sim.heap (e : w'.heap = w.heap) (h : Sim g O S w) (ei : w'.os = w.os ∧ w'.output = w.output := by exact ⟨rfl, rfl⟩) : Sim g O S w' where
  base_le := by rw [e]; exact h.base_le
  fresh c hc := h.fresh c (by rw [e] at hc; exact hc)
  low := h.low
  own := h.own
  dom := h.dom
  blk d k c b hr hb := (h.blk d k c b hr hb).mono (Mon.heap e ei) (by rw [e])
  nilb := h.nilb
  glob := h.glob.mono (O := O) (S := S) (Mon.heap e ei)

theorem Evo.heap (e : w'.heap = w.heap) (ei : w'.os = w.os ∧ w'.output = w.output := by exact ⟨rfl, rfl⟩) : Evo g O S w g O S w' := ⟨Mon.heap e ei, rfl, fun _ _ _ h h' => ⟨h', h⟩⟩

/-- A new block of the machine's, nobody's. -/
theorem heap_push (o : Obj) (c : Nat) (hc : c < w.heap.size) : (w.heap.push o)[c]? = w.heap[c]? := by
  rw [Array.getElem?_push]; rw [if_neg (by omega)]

/-- A new block of the machine's whose cells never change. -/
def Gh.addImm (g : Gh) (c n : Nat) : Gh := { g with σ := fun x => if x = c then .imm n else g.σ x }
/-- A block of the machine's becomes that of an abstract block. -/
def Gh.addAt (g : Gh) (d k c : Nat) : Gh :=
  { g with σ := fun x => if x = c then .abs d k else g.σ x, ρ := fun x y => if x = d ∧ y = k then .at c else g.ρ x y }
/-- An abstract block is not to be made. -/
def Gh.addNil (g : Gh) (d k : Nat) : Gh := { g with ρ := fun x y => if x = d ∧ y = k then .nil else g.ρ x y }

theorem Mon.push_imm (h : Sim g O S w) (o : Obj) (n : Nat) : Mon g O S w (g.addImm w.heap.size n) O S { w with heap := w.heap.push o } where
  io := ⟨rfl, rfl⟩
  base := rfl
  size := by simp
  old c hc := heap_push o c (Nat.lt_of_lt_of_le hc h.base_le)
  imm c m hm := by
    have hlt : c < w.heap.size := by
      rcases Nat.lt_or_ge c w.heap.size with h' | h'
      · exact h'
      · rw [h.fresh c h'] at hm; cases hm
    refine ⟨m, Nat.le_refl _, ?_, fun i _ => cell_old (heap_push o c hlt) i⟩
    simp only [Gh.addImm]; rw [if_neg (by omega)]; exact hm
  blk d k b hb := ⟨b, hb, fun hu => by
    have hs : ∀ c n, g.ρ d k = .at c → Sized w c n → Sized { w with heap := w.heap.push o } c n := fun c n hc ⟨vs, ty, fr, p, q⟩ =>
      ⟨vs, ty, fr, by simpa [heap_push o c (h.at_lt hc).2] using p, q⟩
    cases b <;> simp [BE, Gh.addImm, hu]
    exact hs⟩

theorem Sim.push_imm (h : Sim g O S w) (o : Obj) (n : Nat) : Sim (g.addImm w.heap.size n) O S { w with heap := w.heap.push o } where
  base_le := by have := h.base_le; simp [Gh.addImm]; omega
  fresh c hc := by
    simp at hc
    simp only [Gh.addImm]; rw [if_neg (by omega)]; exact h.fresh c (by omega)
  low c hc := by
    have := h.base_le
    simp only [Gh.addImm] at hc ⊢; rw [if_neg (by omega)]; exact h.low c hc
  own d k c := by
    simp only [Gh.addImm]
    by_cases e : c = w.heap.size
    · subst e
      simp only [if_true]
      constructor
      · intro hr; exact absurd (h.at_lt hr).2 (by omega)
      · intro hr; cases hr
    · rw [if_neg e]; exact h.own d k c
  dom := h.dom
  blk d k c b hr hb := (h.blk d k c b hr hb).mono (Mon.push_imm h o n) (heap_push o c (h.at_lt hr).2)
  nilb := h.nilb
  glob := h.glob.mono (Mon.push_imm h o n)

theorem Evo.push_imm (h : Sim g O S w) (o : Obj) (n : Nat) : Evo g O S w (g.addImm w.heap.size n) O S { w with heap := w.heap.push o } :=
  ⟨Mon.push_imm h o n, rfl, fun _ _ _ h h' => ⟨h', h⟩⟩


theorem Mon.grow (hS : S ≠ []) (obj : Bool) (b : ABlk) : Mon g O S w g (newO O obj b) (newS S obj b) w where
  io := ⟨rfl, rfl⟩
  base := rfl
  size := Nat.le_refl _
  old _ _ := rfl
  imm c m hm := ⟨m, Nat.le_refl _, hm, fun _ _ => rfl⟩
  blk d k b' hb := by
    refine ⟨b', ?_, fun hu => by cases b' <;> simp [BE, hu]⟩
    rw [gm_new hS, if_neg]
    · exact hb
    · rintro ⟨rfl, rfl⟩; rw [gm_newSelf hS] at hb; cases hb

theorem Sim.grow (h : Sim g O S w) (hS : S ≠ []) (obj : Bool) (b : ABlk) : Sim g (newO O obj b) (newS S obj b) w := by
  have hm : Mon g O S w g (newO O obj b) (newS S obj b) w := Mon.grow hS obj b
  have hun : g.ρ (newD S obj) (newK O S obj) = .un := h.isSome_of (gm_newSelf hS)
  have hne : ∀ d k, g.ρ d k ≠ .un → ¬ (d = newD S obj ∧ k = newK O S obj) := by rintro d k hr ⟨rfl, rfl⟩; exact hr hun
  refine ⟨h.base_le, h.fresh, h.low, h.own, fun d k hr => ?_, fun d k c b' hr hb => ?_, fun d k hr => ?_, h.glob.mono hm⟩
  · rw [gm_new hS, if_neg (hne d k hr)]; exact h.dom d k hr
  · rw [gm_new hS, if_neg (hne d k (by rw [hr]; simp))] at hb
    exact (h.blk d k c b' hr hb).mono hm rfl
  · rw [gm_new hS, if_neg (hne d k (by rw [hr]; simp))]; exact h.nilb d k hr

theorem Evo.grow (hS : S ≠ []) (obj : Bool) (b : ABlk) : Evo g O S w g (newO O obj b) (newS S obj b) w where
  mon := Mon.grow hS obj b
  slen := newS_length
  un d k b' hu hb := by
    refine ⟨?_, hu⟩
    rw [gm_new hS, if_neg]
    · exact hb
    · rintro ⟨rfl, rfl⟩; rw [gm_newSelf hS] at hb; cases hb

/-- What is made of an abstract block. -/
def NewR (g : Gh) (O : List ABlk) (S : List (List ABlk)) (w : World) (d : Nat) (b : ABlk) (o : Obj) : Prop :=
  match b with
  | .arr cs => ∃ vs ty fr, o = .cells vs ty fr ∧ (∀ i, i < vs.size → (decide (fr.1 ≤ i) && decide (i < fr.2)) = false) ∧ vs.size = cs.length ∧
      ∀ (i : Nat) (a : AV), cs[i]? = some a → a.one = true ∧ ∃ v, vs[i]? = some v ∧ VR g O S w (d + 1) a v
  | .buf _ cs => ∃ vs ty fr, o = .cells vs ty fr ∧ (∀ i, i < vs.size → (decide (fr.1 ≤ i) && decide (i < fr.2)) = false) ∧ cs.length ≤ vs.size ∧
      ∀ (i : Nat) (a : AV), cs[i]? = some a → a.one = true ∧ ∃ v, vs[i]? = some v ∧ VR g O S w (d + 1) a v
  | .map es => ∃ ck, o = .map #[] ck ∧ es = []

theorem NewR.mono (h : Mon g O S w g' O' S' w') {d : Nat} {b : ABlk} {o : Obj} (hb : NewR g O S w d b o) : NewR g' O' S' w' d b o := by
  cases b with
  | arr cs =>
    obtain ⟨vs, ty, fr, h1, h2, h3, h4⟩ := hb
    exact ⟨vs, ty, fr, h1, h2, h3, fun i a ha => ⟨(h4 i a ha).1, let ⟨v, p, q⟩ := (h4 i a ha).2; ⟨v, p, q.mono h⟩⟩⟩
  | buf sz cs =>
    obtain ⟨vs, ty, fr, h1, h2, h3, h4⟩ := hb
    exact ⟨vs, ty, fr, h1, h2, h3, fun i a ha => ⟨(h4 i a ha).1, let ⟨v, p, q⟩ := (h4 i a ha).2; ⟨v, p, q.mono h⟩⟩⟩
  | map es => exact hb

theorem NewR.toBR {d : Nat} {b : ABlk} {o : Obj} {c : Nat} (hc : w.heap[c]? = some o) (hb : NewR g O S w d b o) : BR g O S w d b c := by
  cases b with
  | arr cs =>
    obtain ⟨vs, ty, fr, rfl, h2, h3, h4⟩ := hb
    exact ⟨vs, ⟨ty, fr, hc, h2⟩, h3, h4⟩
  | buf sz cs =>
    obtain ⟨vs, ty, fr, rfl, h2, h3, h4⟩ := hb
    exact ⟨vs, ⟨ty, fr, hc, h2⟩, h3, h4⟩
  | map es =>
    obtain ⟨ck, rfl, rfl⟩ := hb
    exact ⟨#[], ck, hc, rfl, fun i a ha => by simp at ha⟩

theorem Mon.realize (h : Sim g O S w) {d k : Nat} (hu : g.ρ d k = .un) (o : Obj) :
    Mon g O S w (g.addAt d k w.heap.size) O S { w with heap := w.heap.push o } where
  io := ⟨rfl, rfl⟩
  base := rfl
  size := by simp
  old c hc := heap_push o c (Nat.lt_of_lt_of_le hc h.base_le)
  imm c m hm := by
    have hlt : c < w.heap.size := by
      rcases Nat.lt_or_ge c w.heap.size with h' | h'
      · exact h'
      · rw [h.fresh c h'] at hm; cases hm
    refine ⟨m, Nat.le_refl _, ?_, fun i _ => cell_old (heap_push o c hlt) i⟩
    simp only [Gh.addAt]; rw [if_neg (by omega)]; exact hm
  blk d' k' b hb := ⟨b, hb, fun hu' => by
    have hne : ¬ (d' = d ∧ k' = k) := by rintro ⟨rfl, rfl⟩; exact hu' hu
    have hs : ∀ c n, g.ρ d' k' = .at c → Sized w c n → Sized { w with heap := w.heap.push o } c n := fun c n hc ⟨vs, ty, fr, p, q⟩ =>
      ⟨vs, ty, fr, by simpa [heap_push o c (h.at_lt hc).2] using p, q⟩
    cases b <;> simp only [BE, Gh.addAt, if_neg hne]
    · exact ⟨trivial, trivial⟩
    · exact ⟨trivial, Nat.le_refl _, hu', fun _ => ⟨trivial, hs⟩⟩⟩

theorem Sim.realize (h : Sim g O S w) {d k : Nat} {b : ABlk} (hu : g.ρ d k = .un) (hb : gm O S d k = some b) {o : Obj} (hn : NewR g O S w d b o) :
    Sim (g.addAt d k w.heap.size) O S { w with heap := w.heap.push o } := by
  have hm := Mon.realize h hu o
  refine ⟨by have := h.base_le; simp [Gh.addAt]; omega, fun c hc => ?_, fun c hc => ?_, fun d' k' c => ?_, fun d' k' hr => ?_, fun d' k' c b' hr hb' => ?_, fun d' k' hr => ?_, h.glob.mono hm⟩
  · simp at hc
    simp only [Gh.addAt]; rw [if_neg (by omega)]; exact h.fresh c (by omega)
  · have := h.base_le
    simp only [Gh.addAt] at hc ⊢; rw [if_neg (by omega)]; exact h.low c hc
  · simp only [Gh.addAt]
    by_cases e : c = w.heap.size
    · subst e
      simp only [if_true]
      by_cases e2 : d' = d ∧ k' = k
      · obtain ⟨rfl, rfl⟩ := e2; simp
      · rw [if_neg e2]
        constructor
        · intro hr; exact absurd (h.at_lt hr).2 (by omega)
        · intro hr; simp at hr; exact absurd ⟨hr.1.symm, hr.2.symm⟩ e2
    · rw [if_neg e]
      by_cases e2 : d' = d ∧ k' = k
      · obtain ⟨rfl, rfl⟩ := e2
        simp only [and_self, if_true]
        constructor
        · intro hr; simp at hr; exact absurd hr.symm e
        · intro hr; have := (h.own d' k' c).2 hr; rw [hu] at this; cases this
      · rw [if_neg e2]; exact h.own d' k' c
  · by_cases e2 : d' = d ∧ k' = k
    · obtain ⟨rfl, rfl⟩ := e2; rw [hb]; rfl
    · simp only [Gh.addAt, if_neg e2] at hr; exact h.dom d' k' hr
  · by_cases e2 : d' = d ∧ k' = k
    · obtain ⟨rfl, rfl⟩ := e2
      simp only [Gh.addAt, and_self, if_true, Loc.at.injEq] at hr
      subst hr
      rw [hb] at hb'
      cases hb'
      exact (hn.mono hm).toBR (by simp)
    · simp only [Gh.addAt, if_neg e2] at hr
      exact (h.blk d' k' c b' hr hb').mono hm (heap_push o c (h.at_lt hr).2)
  · by_cases e2 : d' = d ∧ k' = k
    · obtain ⟨rfl, rfl⟩ := e2; simp [Gh.addAt] at hr
    · simp only [Gh.addAt, if_neg e2] at hr; exact h.nilb d' k' hr

theorem Mon.setNil {d k : Nat} (hu : g.ρ d k = .un) : Mon g O S w (g.addNil d k) O S w where
  io := ⟨rfl, rfl⟩
  base := rfl
  size := Nat.le_refl _
  old _ _ := rfl
  imm c m hm := ⟨m, Nat.le_refl _, hm, fun _ _ => rfl⟩
  blk d' k' b hb := ⟨b, hb, fun hu' => by
    have hne : ¬ (d' = d ∧ k' = k) := by rintro ⟨rfl, rfl⟩; exact hu' hu
    cases b <;> simp [BE, Gh.addNil, hne, hu']⟩

theorem Sim.setNil (h : Sim g O S w) {d k sz : Nat} (hu : g.ρ d k = .un) (hb : gm O S d k = some (.buf sz [])) : Sim (g.addNil d k) O S w := by
  have hm : Mon g O S w (g.addNil d k) O S w := Mon.setNil hu
  refine ⟨h.base_le, h.fresh, h.low, fun d' k' c => ?_, fun d' k' hr => ?_, fun d' k' c b' hr hb' => ?_, fun d' k' hr => ?_, h.glob.mono hm⟩
  · by_cases e2 : d' = d ∧ k' = k
    · obtain ⟨rfl, rfl⟩ := e2
      simp only [Gh.addNil, and_self, if_true]
      constructor
      · intro hr; cases hr
      · intro hr; have := (h.own d' k' c).2 hr; rw [hu] at this; cases this
    · simp only [Gh.addNil, if_neg e2]; exact h.own d' k' c
  · by_cases e2 : d' = d ∧ k' = k
    · obtain ⟨rfl, rfl⟩ := e2; rw [hb]; rfl
    · simp only [Gh.addNil, if_neg e2] at hr; exact h.dom d' k' hr
  · by_cases e2 : d' = d ∧ k' = k
    · simp [Gh.addNil, e2] at hr
    · simp only [Gh.addNil, if_neg e2] at hr
      exact (h.blk d' k' c b' hr hb').mono hm rfl
  · by_cases e2 : d' = d ∧ k' = k
    · obtain ⟨rfl, rfl⟩ := e2; exact ⟨sz, hb⟩
    · simp only [Gh.addNil, if_neg e2] at hr; exact h.nilb d' k' hr

/-- Making a new block on both sides. -/
theorem Sim.new_at (h : Sim g O S w) (hS : S ≠ []) (obj : Bool) {b : ABlk} {o : Obj} (hn : NewR g O S w (newD S obj) b o) :
    Sim (g.addAt (newD S obj) (newK O S obj) w.heap.size) (newO O obj b) (newS S obj b) { w with heap := w.heap.push o } ∧
    Evo g O S w (g.addAt (newD S obj) (newK O S obj) w.heap.size) (newO O obj b) (newS S obj b) { w with heap := w.heap.push o } := by
  have hun : g.ρ (newD S obj) (newK O S obj) = .un := h.isSome_of (gm_newSelf hS)
  have h1 := h.grow hS obj b
  have hb : gm (newO O obj b) (newS S obj b) (newD S obj) (newK O S obj) = some b := by rw [gm_new hS]; simp
  refine ⟨h1.realize hun hb (hn.mono (Mon.grow hS obj b)), (Mon.grow hS obj b).trans (Mon.realize h1 hun o), newS_length, fun d k b' hu hb' => ?_⟩
  have hne : ¬ (d = newD S obj ∧ k = newK O S obj) := by rintro ⟨rfl, rfl⟩; rw [gm_newSelf hS] at hb'; cases hb'
  exact ⟨by rw [gm_new hS, if_neg hne]; exact hb', by simp only [Gh.addAt, if_neg hne]; exact hu⟩

theorem Sim.new_nil (h : Sim g O S w) (hS : S ≠ []) (obj : Bool) (sz : Nat) :
    Sim (g.addNil (newD S obj) (newK O S obj)) (newO O obj (.buf sz [])) (newS S obj (.buf sz [])) w ∧
    Evo g O S w (g.addNil (newD S obj) (newK O S obj)) (newO O obj (.buf sz [])) (newS S obj (.buf sz [])) w := by
  have hun : g.ρ (newD S obj) (newK O S obj) = .un := h.isSome_of (gm_newSelf hS)
  have h1 := h.grow hS obj (.buf sz [])
  have hb : gm (newO O obj (.buf sz [])) (newS S obj (.buf sz [])) (newD S obj) (newK O S obj) = some (.buf sz []) := by rw [gm_new hS]; simp
  refine ⟨h1.setNil hun hb, (Mon.grow hS obj _).trans (Mon.setNil hun), newS_length, fun d k b' hu hb' => ?_⟩
  have hne : ¬ (d = newD S obj ∧ k = newK O S obj) := by rintro ⟨rfl, rfl⟩; rw [gm_newSelf hS] at hb'; cases hb'
  exact ⟨by rw [gm_new hS, if_neg hne]; exact hb', by simp only [Gh.addNil, if_neg hne]; exact hu⟩

end
end Den
