/- How the executable form's values and memory stand for the machine's. -/
import Derived.Test.YtajcniofkpifaaaDenC
set_option linter.unusedSectionVars false
set_option linter.unusedVariables false
set_option linter.unusedSimpArgs false
namespace Den
open Go
variable [GTab]

/-- Whose a block of the machine's memory is: nobody's; never to change up to a cell; that of an abstract block. -/
inductive Own where
  | garb | imm (n : Nat) | abs (d k : Nat)
  deriving DecidableEq
/-- Where an abstract block is: not made yet; a slice of no cells, without memory; in a block. -/
inductive Loc where
  | un | nil | at (c : Nat)
  deriving DecidableEq

structure Gh where
  base : Nat
  σ : Nat → Own
  ρ : Nat → Nat → Loc

def Imm (g : Gh) (c n : Nat) : Prop := c < g.base ∨ ∃ m, g.σ c = .imm m ∧ n ≤ m

/-- A block of the machine's memory with at least so many cells. -/
def Sized (w : World) (c n : Nat) : Prop := ∃ vs ty fr, w.heap[c]? = some (.cells vs ty fr) ∧ n ≤ vs.size

def BufAt (g : Gh) (O : List ABlk) (S : List (List ABlk)) (w : World) (d k tot off : Nat) (cap : Nat) (a : Option Addr) : Prop :=
  ∃ sz cs, gm O S d k = some (.buf sz cs) ∧ tot ≤ cs.length ∧ g.ρ d k ≠ .un ∧ (cs.length = tot →
    match g.ρ d k with
    | .un => False
    | .nil => cs = [] ∧ cap = 0
    | .at c => (cap = 0 ∨ a = some ⟨c, off, none⟩) ∧ (off = 0 → Sized w c (cap * sz)))

inductive VR (g : Gh) (O : List ABlk) (S : List (List ABlk)) (w : World) : Nat → AV → Value → Prop where
  | undef {lim v} : VR g O S w lim .undef v
  | int {lim k n} : VR g O S w lim (.int k n) (.int k n)
  | bool {lim b} : VR g O S w lim (.bool b) (.bool b)
  | str {lim s} : VR g O S w lim (.str s) (.string ⟨s.toArray⟩)
  | nilp {lim} : VR g O S w lim .nilp (.pointer none)
  | nils {lim} : VR g O S w lim .nils (.slice none 0 0)
  | nili {lim} : VR g O S w lim .nili .nilIface
  | nilf {lim} : VR g O S w lim .nilf .nilFunc
  | nilm {lim} : VR g O S w lim .nilm (.map none)
  | emp {lim a} : VR g O S w lim .emp (.slice (some a) 0 0)
  | isle {lim a cap} : VR g O S w lim (.isl [] 0) (.slice a 0 cap)
  | isl {lim cells len cap c off} (f : Nat → Value) (hlen : len ≤ cap) (hc : ∀ i, i < cells.length → w.cell? ⟨c, off + i, none⟩ = some (f i))
      (hi : cells ≠ [] → Imm g c (off + cells.length)) (hv : ∀ i a, cells[i]? = some a → VR g O S w 0 a (f i)) (h1 : ∀ (i : Nat) (a : AV), cells[i]? = some a → a.one = true) :
      VR g O S w lim (.isl cells len) (.slice (some ⟨c, off, none⟩) len cap)
  | iptr {lim cells c off} (f : Nat → Value) (hc : ∀ i, i < cells.length → w.cell? ⟨c, off + i, none⟩ = some (f i))
      (hi : cells ≠ [] → Imm g c (off + cells.length)) (hv : ∀ i a, cells[i]? = some a → VR g O S w 0 a (f i)) (h1 : ∀ (i : Nat) (a : AV), cells[i]? = some a → a.one = true) :
      VR g O S w lim (.iptr cells) (.pointer (some ⟨c, off, none⟩))
  | agg {lim cs} {vs : Array Value} (f : Nat → Value) (hs : vs.size = cs.length) (hf : ∀ i, i < cs.length → vs[i]? = some (f i))
      (hv : ∀ i a, cs[i]? = some a → VR g O S w lim a (f i)) (h1 : ∀ (i : Nat) (a : AV), cs[i]? = some a → a.one = true) : VR g O S w lim (.agg cs) (.agg vs)
  | tup {lim cs} {vs : Array Value} (f : Nat → Value) (hs : vs.size = cs.length) (hf : ∀ i, i < cs.length → vs[i]? = some (f i))
      (hv : ∀ i a, cs[i]? = some a → VR g O S w lim a (f i)) : VR g O S w lim (.tup cs) (.tuple vs)
  | func {lim fn cs} {vs : Array Value} (f : Nat → Value) (hs : vs.size = cs.length) (hf : ∀ i, i < cs.length → vs[i]? = some (f i))
      (hv : ∀ i a, cs[i]? = some a → VR g O S w lim a (f i)) : VR g O S w lim (.func fn cs) (.func (.func fn) #[] vs)
  | fm {lim t name} {u : Value} : VR g O S w lim (.fm t name) (.func (.method name) #[.iface t u] #[])
  | iface {lim t a v} (h : VR g O S w lim a v) : VR g O S w lim (.iface t a) (.iface t v)
  | ref {lim d k off c} (hd : d < lim) (hb : ∃ cs, gm O S d k = some (.arr cs)) (h : g.ρ d k = .at c) : VR g O S w lim (.ref d k off) (.pointer (some ⟨c, off, none⟩))
  | sref {lim d k off len cap c a} (hd : d < lim) (hb : ∃ cs, gm O S d k = some (.arr cs)) (h : g.ρ d k = .at c) (hlc : len ≤ cap) (ha : cap = 0 ∨ a = ⟨c, off, none⟩) :
      VR g O S w lim (.sref d k off len cap) (.slice (some a) len cap)
  | bref {lim d k off len tot cap a} (hd : d < lim) (hlc : len ≤ cap) (ha : 0 < len → a.isSome = true) (h : BufAt g O S w d k tot off cap a) :
      VR g O S w lim (.bref d k off len tot) (.slice a len cap)
  | bptr {lim d k off tot a} (hd : d < lim) (h : BufAt g O S w d k tot off 1 (some a)) : VR g O S w lim (.bptr d k off tot) (.pointer (some a))
  | map {lim d k r} (hd : d < lim) (hb : ∃ es, gm O S d k = some (.map es)) (h : g.ρ d k = .at r) : VR g O S w lim (.map d k) (.map (some r))

/-- A block of cells, none of which is shared with a string. -/
def Cells (w : World) (c : Nat) (vs : Array Value) : Prop := ∃ ty fr, w.heap[c]? = some (.cells vs ty fr) ∧ ∀ i, i < vs.size → (decide (fr.1 ≤ i) && decide (i < fr.2)) = false

def BR (g : Gh) (O : List ABlk) (S : List (List ABlk)) (w : World) (d : Nat) (b : ABlk) (c : Nat) : Prop :=
  match b with
  | .arr cs => ∃ vs, Cells w c vs ∧ vs.size = cs.length ∧ ∀ (i : Nat) (a : AV), cs[i]? = some a → a.one = true ∧ ∃ v, vs[i]? = some v ∧ VR g O S w (d + 1) a v
  | .buf _ cs => ∃ vs, Cells w c vs ∧ cs.length ≤ vs.size ∧ ∀ (i : Nat) (a : AV), cs[i]? = some a → a.one = true ∧ ∃ v, vs[i]? = some v ∧ VR g O S w (d + 1) a v
  | .map es => ∃ ms ck, w.heap[c]? = some (.map ms ck) ∧ ms.size = es.length ∧ ∀ (i : Nat) (a : AV × AV), es[i]? = some a → a.1.one = true ∧ a.2.one = true ∧ ∃ m, ms[i]? = some m ∧ VR g O S w 0 a.1 m.key ∧ VR g O S w (d + 1) a.2 m.val

/-- The variables that are known hold what they do. -/
def GlobOk (g : Gh) (w : World) : Prop := ∀ n cs, GTab.tab n = some cs → n < g.base ∧ ∀ (i : Nat) (a : AV), cs[i]? = some a → a.one = true ∧ ∃ v, w.cell? ⟨n, i, none⟩ = some v ∧ ofValue v = some a

structure Sim (g : Gh) (O : List ABlk) (S : List (List ABlk)) (w : World) : Prop where
  base_le : g.base ≤ w.heap.size
  fresh : ∀ c, w.heap.size ≤ c → g.σ c = .garb
  low : ∀ c, c < g.base → g.σ c = .garb
  own : ∀ d k c, g.ρ d k = .at c ↔ g.σ c = .abs d k
  dom : ∀ d k, g.ρ d k ≠ .un → (gm O S d k).isSome = true
  blk : ∀ d k c b, g.ρ d k = .at c → gm O S d k = some b → BR g O S w d b c
  nilb : ∀ d k, g.ρ d k = .nil → ∃ sz, gm O S d k = some (.buf sz [])
  glob : GlobOk g w

/-- What a block may become. -/
def BE (w w' : World) (b b' : ABlk) (l l' : Loc) : Prop :=
  match b, b' with
  | .arr cs, .arr cs' => cs'.length = cs.length ∧ l' = l
  | .map _, .map _ => l' = l
  | .buf sz cs, .buf sz' cs' => sz' = sz ∧ cs.length ≤ cs'.length ∧ l' ≠ .un ∧ (cs'.length = cs.length → l' = l ∧ ∀ c n, l = .at c → Sized w c n → Sized w' c n)
  | _, _ => False

/-- What may have happened to memory, as far as values go. 'x': which blocks may have been made meanwhile. -/
structure Mon (g : Gh) (O : List ABlk) (S : List (List ABlk)) (w : World) (g' : Gh) (O' : List ABlk) (S' : List (List ABlk)) (w' : World) : Prop where
  io : w'.os = w.os ∧ w'.output = w.output
  base : g'.base = g.base
  size : w.heap.size ≤ w'.heap.size
  old : ∀ c, c < g.base → w'.heap[c]? = w.heap[c]?
  imm : ∀ c m, g.σ c = .imm m → ∃ m', m ≤ m' ∧ g'.σ c = .imm m' ∧ ∀ i, i < m → w'.cell? ⟨c, i, none⟩ = w.cell? ⟨c, i, none⟩
  blk : ∀ d k b, gm O S d k = some b → ∃ b', gm O' S' d k = some b' ∧ (g.ρ d k ≠ .un → BE w w' b b' (g.ρ d k) (g'.ρ d k))

/-- The same, and what was not made then is as it was. -/
structure Evo (g : Gh) (O : List ABlk) (S : List (List ABlk)) (w : World) (g' : Gh) (O' : List ABlk) (S' : List (List ABlk)) (w' : World) : Prop where
  mon : Mon g O S w g' O' S' w'
  slen : S'.length = S.length
  un : ∀ d k b, g.ρ d k = .un → gm O S d k = some b → gm O' S' d k = some b ∧ g'.ρ d k = .un

theorem Mon.refl (g : Gh) (O S w) : Mon g O S w g O S w where
  io := ⟨rfl, rfl⟩
  base := rfl
  size := Nat.le_refl _
  old _ _ := rfl
  imm c m h := ⟨m, Nat.le_refl _, h, fun _ _ => rfl⟩
  blk d k b h := ⟨b, h, fun h' => by cases b <;> simp [BE, h']⟩

theorem Evo.refl (g : Gh) (O S w) : Evo g O S w g O S w := ⟨.refl .., rfl, fun _ _ _ h h' => ⟨h', h⟩⟩

theorem cell_old {w w' : World} {c : Nat} (h : w'.heap[c]? = w.heap[c]?) (i : Nat) : w'.cell? ⟨c, i, none⟩ = w.cell? ⟨c, i, none⟩ := by
  simp [World.cell?, h]

section
variable {g g' : Gh} {O O' : List ABlk} {S S' : List (List ABlk)} {w w' : World}

theorem GlobOk.mono (h : Mon g O S w g' O' S' w') (hg : GlobOk g w) : GlobOk g' w' := fun n cs hn => by
  obtain ⟨h1, h2⟩ := hg n cs hn
  refine ⟨by rw [h.base]; exact h1, fun i a ha => ?_⟩
  obtain ⟨p, v, q, r⟩ := h2 i a ha
  exact ⟨p, v, by rw [cell_old (h.old n h1) i]; exact q, r⟩

theorem Imm.mono (h : Mon g O S w g' O' S' w') {c n : Nat} (hi : Imm g c n) : Imm g' c n := by
  rcases hi with hi | ⟨m, hm, hn⟩
  · exact .inl (h.base ▸ hi)
  · obtain ⟨m', h1, h2, _⟩ := h.imm c m hm
    exact .inr ⟨m', h2, by omega⟩

theorem Imm.cell (h : Mon g O S w g' O' S' w') {c n i : Nat} (hi : Imm g c n) (hin : i < n) : w'.cell? ⟨c, i, none⟩ = w.cell? ⟨c, i, none⟩ := by
  rcases hi with hi | ⟨m, hm, hn⟩
  · exact cell_old (h.old c hi) i
  · obtain ⟨m', _, _, h3⟩ := h.imm c m hm
    exact h3 i (by omega)

theorem Mon.arr (h : Mon g O S w g' O' S' w') {d k c : Nat} (hr : g.ρ d k = .at c) (hb : ∃ cs, gm O S d k = some (.arr cs)) :
    g'.ρ d k = .at c ∧ ∃ cs, gm O' S' d k = some (.arr cs) := by
  obtain ⟨cs, hb⟩ := hb
  obtain ⟨b', hb', hbe⟩ := h.blk d k _ hb
  have hbe := hbe (by rw [hr]; simp)
  cases b' <;> simp only [BE] at hbe
  exact ⟨by rw [hbe.2, hr], _, hb'⟩

theorem Mon.map (h : Mon g O S w g' O' S' w') {d k c : Nat} (hr : g.ρ d k = .at c) (hb : ∃ cs, gm O S d k = some (.map cs)) :
    g'.ρ d k = .at c ∧ ∃ cs, gm O' S' d k = some (.map cs) := by
  obtain ⟨cs, hb⟩ := hb
  obtain ⟨b', hb', hbe⟩ := h.blk d k _ hb
  have hbe := hbe (by rw [hr]; simp)
  cases b' <;> simp only [BE] at hbe
  exact ⟨by rw [hbe, hr], _, hb'⟩

theorem BufAt.mono (h : Mon g O S w g' O' S' w') {d k tot off cap : Nat} {a : Option Addr} (hb : BufAt g O S w d k tot off cap a) : BufAt g' O' S' w' d k tot off cap a := by
  obtain ⟨sz, cs, hg, ht, hu, hm⟩ := hb
  obtain ⟨b', hb', hbe⟩ := h.blk d k _ hg
  have hbe := hbe hu
  cases b' with
  | buf sz' cs' =>
    simp only [BE] at hbe
    obtain ⟨rfl, hle, hne, heq⟩ := hbe
    refine ⟨sz', cs', hb', by omega, hne, fun e => ?_⟩
    have e1 : cs.length = tot := by omega
    have e2 : cs'.length = cs.length := by omega
    have hm := hm e1
    rw [(heq e2).1]
    cases hr : g.ρ d k with
    | un => exact absurd hr hu
    | nil =>
      rw [hr] at hm
      obtain ⟨rfl, h2⟩ := hm
      exact ⟨by simpa using e2, h2⟩
    | «at» c =>
      rw [hr] at hm
      exact ⟨hm.1, fun h0 => (heq e2).2 c _ hr (hm.2 h0)⟩
  | arr _ => simp [BE] at hbe
  | map _ => simp [BE] at hbe

theorem VR.mono (h : Mon g O S w g' O' S' w') {lim : Nat} {a : AV} {v : Value} (hv : VR g O S w lim a v) : VR g' O' S' w' lim a v := by
  induction hv with
  | undef => exact .undef
  | int => exact .int
  | bool => exact .bool
  | str => exact .str
  | nilp => exact .nilp
  | nils => exact .nils
  | nili => exact .nili
  | nilf => exact .nilf
  | nilm => exact .nilm
  | fm => exact .fm
  | emp => exact .emp
  | isle => exact .isle
  | isl f hlen hc hi _ h1 ih =>
    exact .isl f hlen (fun i hi' => by rw [Imm.cell h (hi (by rintro rfl; simp at hi')) (by omega)]; exact hc i hi') (fun hne => (hi hne).mono h) ih h1
  | iptr f hc hi _ h1 ih =>
    exact .iptr f (fun i hi' => by rw [Imm.cell h (hi (by rintro rfl; simp at hi')) (by omega)]; exact hc i hi') (fun hne => (hi hne).mono h) ih h1
  | agg f hs hf _ h1 ih => exact .agg f hs hf ih h1
  | tup f hs hf _ ih => exact .tup f hs hf ih
  | func f hs hf _ ih => exact .func f hs hf ih
  | iface _ ih => exact .iface ih
  | ref hd hb hr => obtain ⟨h1, h2⟩ := h.arr hr hb; exact .ref hd h2 h1
  | sref hd hb hr hlc ha => obtain ⟨h1, h2⟩ := h.arr hr hb; exact .sref hd h2 h1 hlc ha
  | bref hd hlc ha hb => exact .bref hd hlc ha (hb.mono h)
  | bptr hd hb => exact .bptr hd (hb.mono h)
  | map hd hb hr => obtain ⟨h1, h2⟩ := h.map hr hb; exact .map hd h2 h1

theorem VR.lim {l l' : Nat} (hl : l ≤ l') {a : AV} {v : Value} (hv : VR g O S w l a v) : VR g O S w l' a v := by
  induction hv with
  | undef => exact .undef
  | int => exact .int
  | bool => exact .bool
  | str => exact .str
  | nilp => exact .nilp
  | nils => exact .nils
  | nili => exact .nili
  | nilf => exact .nilf
  | nilm => exact .nilm
  | fm => exact .fm
  | emp => exact .emp
  | isle => exact .isle
  | isl f hlen hc hi h0 h1 _ => exact .isl f hlen hc hi h0 h1
  | iptr f hc hi h0 h1 _ => exact .iptr f hc hi h0 h1
  | agg f hs hf _ h1 ih => exact .agg f hs hf (fun i a ha => ih i a ha hl) h1
  | tup f hs hf _ ih => exact .tup f hs hf (fun i a ha => ih i a ha hl)
  | func f hs hf _ ih => exact .func f hs hf (fun i a ha => ih i a ha hl)
  | iface _ ih => exact .iface (ih hl)
  | ref hd hb hr => exact .ref (by omega) hb hr
  | sref hd hb hr hlc ha => exact .sref (by omega) hb hr hlc ha
  | bref hd hlc ha hb => exact .bref (by omega) hlc ha hb
  | bptr hd hb => exact .bptr (by omega) hb
  | map hd hb hr => exact .map (by omega) hb hr

theorem Mon.trans {g2 O2 S2 w2} (h : Mon g O S w g' O' S' w') (h2 : Mon g' O' S' w' g2 O2 S2 w2) : Mon g O S w g2 O2 S2 w2 where
  io := ⟨h2.io.1.trans h.io.1, h2.io.2.trans h.io.2⟩
  base := h2.base.trans h.base
  size := Nat.le_trans h.size h2.size
  old c hc := (h2.old c (h.base ▸ hc)).trans (h.old c hc)
  imm c m hm := by
    obtain ⟨m1, a1, b1, c1⟩ := h.imm c m hm
    obtain ⟨m2, a2, b2, c2⟩ := h2.imm c m1 b1
    exact ⟨m2, by omega, b2, fun i hi => (c2 i (by omega)).trans (c1 i hi)⟩
  blk d k b hb := by
    obtain ⟨b1, hb1, e1⟩ := h.blk d k b hb
    obtain ⟨b2, hb2, e2⟩ := h2.blk d k b1 hb1
    refine ⟨b2, hb2, fun hu => ?_⟩
    have e1 := e1 hu
    cases b <;> cases b1 <;> simp only [BE] at e1
    · have e2 := e2 (by rw [e1.2]; exact hu)
      cases b2 <;> simp only [BE] at e2
      exact ⟨e2.1.trans e1.1, e2.2.trans e1.2⟩
    · obtain ⟨rfl, p1, p2, p3⟩ := e1
      have e2 := e2 p2
      cases b2 <;> simp only [BE] at e2
      obtain ⟨rfl, q1, q2, q3⟩ := e2
      refine ⟨rfl, by omega, q2, fun e => ?_⟩
      exact ⟨(q3 (by omega)).1.trans (p3 (by omega)).1, fun c n hc hs => (q3 (by omega)).2 c n ((p3 (by omega)).1.trans hc) ((p3 (by omega)).2 c n hc hs)⟩
    · have e2 := e2 (by rw [e1]; exact hu)
      cases b2 <;> simp only [BE] at e2
      exact e2.trans e1

theorem Evo.trans {g2 O2 S2 w2} (h : Evo g O S w g' O' S' w') (h2 : Evo g' O' S' w' g2 O2 S2 w2) : Evo g O S w g2 O2 S2 w2 where
  mon := h.mon.trans h2.mon
  slen := h2.slen.trans h.slen
  un d k b hu hb := by
    obtain ⟨a1, b1⟩ := h.un d k b hu hb
    exact h2.un d k b b1 a1
end
end Den
