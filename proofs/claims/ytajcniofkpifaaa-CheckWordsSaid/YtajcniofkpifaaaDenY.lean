/- Entering a function, and coming out of it. -/
import Derived.Test.YtajcniofkpifaaaDenR
set_option linter.unusedSectionVars false
set_option linter.unusedVariables false
set_option linter.unusedSimpArgs false
namespace Den
open Go
variable [GTab]

section
variable {P : Program} {g g' : Gh} {O O' : List ABlk} {S S' : List (List ABlk)} {w w' : World} {lim : Nat}

theorem gm_push (O : List ABlk) (S : List (List ABlk)) (d k : Nat) : gm O (S ++ [[]]) d k = gm O S d k := by
  cases d with
  | zero => rfl
  | succ d =>
    simp only [gm]
    rcases Nat.lt_or_ge d S.length with h | h
    · rw [List.getElem?_append_left h]
    · rw [List.getElem?_append_right h, List.getElem?_eq_none h]
      cases hd : d - S.length <;> simp

theorem Mon.pushF : Mon g O S w g O (S ++ [[]]) w where
  io := ⟨rfl, rfl⟩
  base := rfl
  size := Nat.le_refl _
  old _ _ := rfl
  imm c m h := ⟨m, Nat.le_refl _, h, fun _ _ => rfl⟩
  blk d k b h := ⟨b, by rw [gm_push]; exact h, fun h' => by cases b <;> simp [BE, h']⟩

theorem Sim.pushF (h : Sim g O S w) : Sim g O (S ++ [[]]) w where
  base_le := h.base_le
  fresh := h.fresh
  low := h.low
  own := h.own
  dom d k hr := by rw [gm_push]; exact h.dom d k hr
  blk d k c b hr hb := by rw [gm_push] at hb; exact (h.blk d k c b hr hb).mono .pushF rfl
  nilb d k hr := by rw [gm_push]; exact h.nilb d k hr
  glob := h.glob

theorem gm_pop {S : List (List ABlk)} {d : Nat} (hd : d < S.length) (k : Nat) : gm O S.dropLast d k = gm O S d k := by
  cases d with
  | zero => rfl
  | succ d =>
    simp only [gm]
    rw [List.getElem?_dropLast, if_pos (by omega)]

/-- The size of a block. -/
def sizeW (w : World) (c : Nat) : Nat := match w.heap[c]? with | some (.cells vs _ _) => vs.size | _ => 0

/-- The present frame's blocks are nobody's any more. -/
def Gh.pop (g : Gh) (w : World) (D : Nat) (X : Option Nat := none) : Gh :=
  { g with
    σ := fun c => match g.σ c with | .abs d k => if D ≤ d then (if X = some c then .garb else .imm (sizeW w c)) else .abs d k | x => x
    ρ := fun d k => if D ≤ d then .un else g.ρ d k }

theorem pop_sigma_imm {D c m : Nat} {X : Option Nat} (h : g.σ c = .imm m) : (g.pop w D X).σ c = .imm m := by simp [Gh.pop, h]

/-- Values that do not reach into the frame stay what they are. -/
theorem VR.pop {X : Option Nat} {lim : Nat} (hlim : lim ≤ S.length) {a : AV} {v : Value} (hv : VR g O S w lim a v) : VR (g.pop w S.length X) O S.dropLast w lim a v := by
  have himm : ∀ {c n : Nat}, Imm g c n → Imm (g.pop w S.length X) c n := fun h => by
    rcases h with h | ⟨m, hm, hn⟩
    · exact .inl h
    · exact .inr ⟨m, pop_sigma_imm hm, hn⟩
  have hrho : ∀ {d k : Nat}, d < S.length → (g.pop w S.length X).ρ d k = g.ρ d k := fun h => by simp only [Gh.pop]; rw [if_neg (by omega)]
  have hbuf : ∀ {d k tot off cap : Nat} {a : Option Addr}, d < S.length → BufAt g O S w d k tot off cap a → BufAt (g.pop w S.length X) O S.dropLast w d k tot off cap a := fun hd h => by
    obtain ⟨sz, cs, h1, h2, h3, h4⟩ := h
    refine ⟨sz, cs, by rw [gm_pop hd]; exact h1, h2, by rw [hrho hd]; exact h3, fun e => ?_⟩
    rw [hrho hd]; exact h4 e
  induction hv with
  | undef => exact .undef
  | int => exact .int
  | bool => exact .bool
  | str => exact .str
  | nilp => exact .nilp
  | nils => exact .nils
  | nili => exact .nili
  | nilf => exact .nilf
  | nilm => exact .nilm
  | emp => exact .emp
  | fm => exact .fm
  | isle => exact .isle
  | isl f hlen hc hi _ h1 ih => exact .isl f hlen hc (fun hne => himm (hi hne)) (fun i a ha => ih i a ha (Nat.zero_le _)) h1
  | iptr f hc hi _ h1 ih => exact .iptr f hc (fun hne => himm (hi hne)) (fun i a ha => ih i a ha (Nat.zero_le _)) h1
  | agg f hs hf _ h1 ih => exact .agg f hs hf (fun i a ha => ih i a ha hlim) h1
  | tup f hs hf _ ih => exact .tup f hs hf (fun i a ha => ih i a ha hlim)
  | func f hs hf _ ih => exact .func f hs hf (fun i a ha => ih i a ha hlim)
  | iface _ ih => exact .iface (ih hlim)
  | ref hd hb hr => exact .ref hd (by rw [gm_pop (by omega)]; exact hb) (by rw [hrho (by omega)]; exact hr)
  | sref hd hb hr hlc ha => exact .sref hd (by rw [gm_pop (by omega)]; exact hb) (by rw [hrho (by omega)]; exact hr) hlc ha
  | bref hd hlc ha hb => exact .bref hd hlc ha (hbuf (by omega) hb)
  | bptr hd hb => exact .bptr hd (hbuf (by omega) hb)
  | map hd hb hr => exact .map hd (by rw [gm_pop (by omega)]; exact hb) (by rw [hrho (by omega)]; exact hr)

theorem Sim.pop {X : Option Nat} (h : Sim g O S w) (hS : S ≠ []) : Sim (g.pop w S.length X) O S.dropLast w := by
  have hpos := List.length_pos_iff.2 hS
  have hrho : ∀ {d k : Nat}, d < S.length → (g.pop w S.length X).ρ d k = g.ρ d k := fun h => by simp only [Gh.pop]; rw [if_neg (by omega)]
  have hrn : ∀ {d k : Nat}, (g.pop w S.length X).ρ d k ≠ .un → d < S.length := fun {d k} h => by
    rcases Nat.lt_or_ge d S.length with h' | h'
    · exact h'
    · exact absurd (by simp only [Gh.pop]; rw [if_pos h']) h
  refine ⟨h.base_le, fun c hc => by simp [Gh.pop, h.fresh c hc], fun c hc => by simp [Gh.pop, h.low c hc], fun d k c => ?_, fun d k hr => ?_, fun d k c b hr hb => ?_, fun d k hr => ?_, h.glob⟩
  · constructor
    · intro hr
      have hd := hrn (by rw [hr]; simp)
      rw [hrho hd] at hr
      have := (h.own d k c).1 hr
      simp only [Gh.pop, this]
      rw [if_neg (by omega)]
    · intro hc
      simp only [Gh.pop] at hc
      cases hσ : g.σ c with
      | abs d' k' =>
        rw [hσ] at hc
        simp only at hc
        split at hc
        · split at hc <;> cases hc
        · cases hc
          rw [hrho (by omega)]
          exact (h.own d k c).2 hσ
      | garb => rw [hσ] at hc; cases hc
      | imm m => rw [hσ] at hc; cases hc
  · have hd := hrn hr
    rw [hrho hd] at hr
    rw [gm_pop hd]; exact h.dom d k hr
  · have hd := hrn (by rw [hr]; simp)
    rw [hrho hd] at hr
    rw [gm_pop hd] at hb
    have hbr := h.blk d k c b hr hb
    cases b with
    | arr cs =>
      obtain ⟨vs, h1, h3, h4⟩ := hbr
      exact ⟨vs, h1, h3, fun i a ha => ⟨(h4 i a ha).1, let ⟨v, p, q⟩ := (h4 i a ha).2; ⟨v, p, q.pop (by omega)⟩⟩⟩
    | buf sz cs =>
      obtain ⟨vs, h1, h3, h4⟩ := hbr
      exact ⟨vs, h1, h3, fun i a ha => ⟨(h4 i a ha).1, let ⟨v, p, q⟩ := (h4 i a ha).2; ⟨v, p, q.pop (by omega)⟩⟩⟩
    | map es =>
      obtain ⟨ms, ck, h1, h2, h3⟩ := hbr
      refine ⟨ms, ck, h1, h2, fun i a ha => ?_⟩
      obtain ⟨p1, p2, m, p3, p4, p5⟩ := h3 i a ha
      exact ⟨p1, p2, m, p3, p4.pop (Nat.zero_le _), p5.pop (by omega)⟩
  · have hd := hrn (by rw [hr]; simp)
    rw [hrho hd] at hr
    rw [gm_pop hd]; exact h.nilb d k hr

/-- What happened between entering and coming out. -/
theorem Evo.pop {X : Option Nat} (hlen : S'.length = S.length + 1) (h : Evo g O (S ++ [[]]) w g' O' S' w') : Evo g O S w (g'.pop w' S'.length X) O' S'.dropLast w' where
  mon :=
    { io := h.mon.io
      base := h.mon.base
      size := h.mon.size
      old := h.mon.old
      imm := fun c m hm => by
        obtain ⟨m', a, b, c'⟩ := h.mon.imm c m hm
        exact ⟨m', a, pop_sigma_imm b, c'⟩
      blk := fun d k b hb => by
        have hd : d < S'.length := by
          rcases Nat.lt_or_ge d S'.length with h' | h'
          · exact h'
          · cases d with
            | zero => omega
            | succ d => simp only [gm] at hb; rw [List.getElem?_eq_none (by omega)] at hb; cases hb
        obtain ⟨b', hb', hbe⟩ := h.mon.blk d k b (by rw [gm_push]; exact hb)
        refine ⟨b', by rw [gm_pop hd]; exact hb', fun hu => ?_⟩
        have hrho : (g'.pop w' S'.length X).ρ d k = g'.ρ d k := by simp only [Gh.pop]; rw [if_neg (by omega)]
        rw [hrho]; exact hbe hu }
  slen := by simp [hlen]
  un d k b hu hb := by
    have hd : d < S'.length := by
      rcases Nat.lt_or_ge d S'.length with h' | h'
      · exact h'
      · cases d with
        | zero => omega
        | succ d => simp only [gm] at hb; rw [List.getElem?_eq_none (by omega)] at hb; cases hb
    obtain ⟨a, b'⟩ := h.un d k b hu (by rw [gm_push]; exact hb)
    refine ⟨by rw [gm_pop hd]; exact a, ?_⟩
    simp only [Gh.pop]; rw [if_neg (by omega)]; exact b'

end
end Den
