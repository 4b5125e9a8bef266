/- Arguments of plain kinds: what they read as, and that they read so behind the call. -/
import Derived.Test.YtajcniofkpifaaaDenPost
import Derived.Deep.Slices
import Derived.WideKeyArgs
import Derived.OpenShut
set_option linter.unusedSectionVars false
set_option linter.unusedVariables false
set_option linter.unusedSimpArgs false
namespace Den
open Go Go.ChangeShapes Go.WideShapes

/-- Kinds of arguments: one cell after the other, and slices. -/
inductive Ty where
  | int (k : IntKind) | bool | str | unit
  | cat (a b : Ty)
  | slice (e : Ty)

/-- Cells of a kind. -/
def Shp : Ty → List AV → Prop
  | .int k, cs => ∃ n, cs = [.int k n] ∧ (Lit.int k n).wf = true
  | .bool, cs => ∃ b, cs = [.bool b]
  | .str, cs => ∃ s : List UInt8, cs = [.str s] ∧ s.length ≤ maxLen
  | .unit, cs => cs = []
  | .cat a b, cs => ∃ c1 c2, cs = c1 ++ c2 ∧ Shp a c1 ∧ Shp b c2
  | .slice e, cs => cs = [.nils] ∨ ∃ l : List (List AV), cs = [.isl l.flatten l.length] ∧ l.length ≤ maxLen ∧ ∀ x ∈ l, Shp e x

section
variable (P : Program)
def isFs (rec : TypeId → Ty → Bool) (tot : Nat) : Nat → List Field → Ty → Bool
  | off, [], .unit => decide (off = tot)
  | off, f :: fs, .cat a b => decide (f.offset = off) && rec f.type a && isFs rec tot (off + P.cellsOf f.type) fs b
  | _, _, _ => false
def isArr (rec : TypeId → Ty → Bool) (e : TypeId) : Nat → Ty → Bool
  | 0, .unit => true
  | m + 1, .cat a b => rec e a && isArr rec e m b
  | _, _ => false
def isTy : Nat → TypeId → Ty → Bool
  | 0, _, _ => false
  | n + 1, t, T => match P.underlying t with
    | some .bool => match T with
      | .bool => true
      | _ => false
    | some (.int k) => match T with
      | .int k' => decide (k = k')
      | _ => false
    | some .string => match T with
      | .str => true
      | _ => false
    | some (.slice e) => match T with
      | .slice E => isTy n e E && decide (0 < P.cellsOf e)
      | _ => false
    | some (.struct fs) => isFs P (isTy n) (P.cellsOf t) 0 fs.toList T
    | some (.array m e) => decide (P.cellsOf t = m * P.cellsOf e) && isArr (isTy n) e m T
    | _ => false
end

section
variable [GTab]
/-- Abstract cells for the machine's. -/
def Cs (w : World) (cs : List Value) (as : List AV) : Prop :=
  as.length = cs.length ∧ ∀ (i : Nat) (a : AV), as[i]? = some a → a.one = true ∧ ∃ v, cs[i]? = some v ∧ ∀ lim, VR (g0 w) [] [] w lim a v
theorem Cs.nil (w : World) : Cs w [] [] := ⟨rfl, fun i a h => by simp at h⟩
theorem Cs.append {w : World} {c1 c2 : List Value} {a1 a2 : List AV} (h1 : Cs w c1 a1) (h2 : Cs w c2 a2) : Cs w (c1 ++ c2) (a1 ++ a2) := by
  refine ⟨by simp [h1.1, h2.1], fun i a h => ?_⟩
  by_cases hi : i < a1.length
  · rw [List.getElem?_append_left hi] at h
    rw [List.getElem?_append_left (by rw [← h1.1]; exact hi)]
    exact h1.2 i a h
  · rw [List.getElem?_append_right (by omega)] at h
    rw [List.getElem?_append_right (by rw [← h1.1]; omega), ← h1.1]
    exact h2.2 _ a h
theorem Cs.one {w : World} {v : Value} {a : AV} (ho : a.one = true) (h : ∀ lim, VR (g0 w) [] [] w lim a v) : Cs w [v] [a] := by
  refine ⟨rfl, fun i b hb => ?_⟩
  match i, hb with
  | 0, hb => simp at hb; subst hb; exact ⟨ho, v, rfl, h⟩
  | i + 1, hb => simp at hb
theorem flat_get {α : Type} {A : Nat → List α} {sz : Nat} (hsz : 0 < sz) : ∀ (n : Nat), (∀ i, i < n → (A i).length = sz) →
    (((List.range n).flatMap A).length = n * sz) ∧ ∀ i, i < n * sz → ((List.range n).flatMap A)[i]? = (A (i / sz))[i % sz]?
  | 0, _ => by simp
  | n + 1, h => by
    obtain ⟨h1, h2⟩ := flat_get hsz n (fun i hi => h i (by omega))
    have hn := h n (by omega)
    rw [List.range_succ, List.flatMap_append, List.flatMap_cons, List.flatMap_nil, List.append_nil]
    refine ⟨by rw [List.length_append, h1, hn, Nat.succ_mul], fun i hi => ?_⟩
    by_cases hlt : i < n * sz
    · rw [List.getElem?_append_left (by rw [h1]; exact hlt)]; exact h2 i hlt
    · rw [Nat.succ_mul] at hi
      rw [List.getElem?_append_right (by rw [h1]; omega), h1]
      obtain ⟨r, rfl⟩ : ∃ r, i = n * sz + r := ⟨i - n * sz, by omega⟩
      have hr : r < sz := by omega
      have e1 : (n * sz + r) / sz = n := by
        rw [Nat.mul_comm, Nat.mul_add_div hsz, Nat.div_eq_of_lt hr, Nat.add_zero]
      have e2 : (n * sz + r) % sz = r := by
        rw [Nat.mul_comm, Nat.mul_add_mod, Nat.mod_eq_of_lt hr]
      rw [e1, e2]; congr 1; omega

variable {H : Type} {enc : TypeId × Value → H} {P : Program} {w : World}
theorem open_fs {rec : TypeId → Ty → Bool} {n : Nat}
    (ih : ∀ (T : Ty) (t : TypeId), rec t T = true → ∀ (fuel : Nat) (cs : List Value) (x : DataW H × List MemPlace), DataW.trod enc P w 0 (fun _ => true) true fuel t cs = some x → ∃ as, Shp T as ∧ Cs w cs as)
    (hlen : ∀ (fuel : Nat) (T : Ty) (t : TypeId) (cs : List Value) (x : DataW H × List MemPlace), rec t T = true → DataW.trod enc P w 0 (fun _ => true) true fuel t cs = some x → True)
    {cs : List Value} {tot : Nat} (hc : cs.length = tot) {m : Nat} : ∀ (fs : List Field) (T : Ty) (off : Nat), isFs P rec tot off fs T = true → off ≤ tot →
    (∀ f, f ∈ fs → ∃ y, DataW.trod enc P w 0 (fun _ => true) true m f.type ((cs.drop f.offset).take (P.cellsOf f.type)) = some y) → ∃ as, Shp T as ∧ Cs w (cs.drop off) as
  | [], T, off, h, ho, hf => by
    cases T <;> first | (cases h; done) | skip
    simp only [isFs, decide_eq_true_eq] at h
    refine ⟨[], rfl, ?_⟩
    rw [List.drop_eq_nil_of_le (by omega)]; exact Cs.nil w
  | f :: fs, T, off, h, ho, hf => by
    cases T <;> first | (cases h; done) | skip
    rename_i a b
    simp only [isFs, Bool.and_eq_true, decide_eq_true_eq] at h
    obtain ⟨⟨h1, h2⟩, h3⟩ := h
    obtain ⟨y, hy⟩ := hf f (by simp)
    rw [h1] at hy
    obtain ⟨as1, s1, c1⟩ := ih a f.type h2 m _ y hy
    by_cases hle : off + P.cellsOf f.type ≤ tot
    · obtain ⟨as2, s2, c2⟩ := open_fs (n := n) ih hlen hc fs b _ h3 hle (fun g hg => hf g (by simp [hg]))
      refine ⟨as1 ++ as2, ⟨as1, as2, rfl, s1, s2⟩, ?_⟩
      have := Cs.append c1 c2
      rw [← List.drop_drop, List.take_append_drop] at this
      exact this
    · exfalso
      have : ∀ (fs : List Field) (T : Ty) (off : Nat), tot < off → isFs P rec tot off fs T = false := by
        intro fs
        induction fs with
        | nil =>
          intro T off hlt
          cases T <;> simp [isFs]
          omega
        | cons g gs ih2 =>
          intro T off hlt
          cases T <;> simp [isFs]
          intro _ _
          exact ih2 _ _ (by omega)
      rw [this fs b _ (by omega)] at h3
      cases h3
theorem open_arr {rec : TypeId → Ty → Bool}
    (ih : ∀ (T : Ty) (t : TypeId), rec t T = true → ∀ (fuel : Nat) (cs : List Value) (x : DataW H × List MemPlace), DataW.trod enc P w 0 (fun _ => true) true fuel t cs = some x → ∃ as, Shp T as ∧ Cs w cs as)
    {e : TypeId} {m : Nat} : ∀ (k : Nat) (T : Ty) (cs : List Value), isArr rec e k T = true → cs.length = k * P.cellsOf e →
    (∀ i, i < k → ∃ y, DataW.trod enc P w 0 (fun _ => true) true m e ((cs.drop (i * P.cellsOf e)).take (P.cellsOf e)) = some y) → ∃ as, Shp T as ∧ Cs w cs as
  | 0, T, cs, h, hl, hf => by
    cases T <;> first | (cases h; done) | skip
    have : cs = [] := List.eq_nil_of_length_eq_zero (by omega)
    subst this
    exact ⟨[], rfl, Cs.nil w⟩
  | k + 1, T, cs, h, hl, hf => by
    cases T <;> first | (cases h; done) | skip
    rename_i a b
    simp only [isArr, Bool.and_eq_true] at h
    obtain ⟨y, hy⟩ := hf 0 (by omega)
    rw [Nat.zero_mul, List.drop_zero] at hy
    obtain ⟨as1, s1, c1⟩ := ih a e h.1 m _ y hy
    rw [Nat.succ_mul] at hl
    obtain ⟨as2, s2, c2⟩ := open_arr ih k b (cs.drop (P.cellsOf e)) h.2 (by simp [hl]) (fun i hi => by
      obtain ⟨z, hz⟩ := hf (i + 1) (by omega)
      refine ⟨z, ?_⟩
      rw [List.drop_drop, show P.cellsOf e + i * P.cellsOf e = (i + 1) * P.cellsOf e by rw [Nat.succ_mul]; omega]
      exact hz)
    refine ⟨as1 ++ as2, ⟨as1, as2, rfl, s1, s2⟩, ?_⟩
    have := Cs.append c1 c2
    rw [List.take_append_drop] at this
    exact this
theorem open_ty : ∀ (n : Nat) (T : Ty) (t : TypeId), isTy P n t T = true → ∀ (fuel : Nat) (cs : List Value) (x : DataW H × List MemPlace), DataW.trod enc P w 0 (fun _ => true) true fuel t cs = some x → ∃ as, Shp T as ∧ Cs w cs as
  | 0, T, t, h, fuel, cs, x, hx => by cases h
  | n + 1, T, t, h, fuel, cs, x, hx => by
    unfold isTy at h
    split at h
    · rename_i hu
      cases T <;> first | (cases h; done) | skip
      obtain ⟨b, rfl, _⟩ := DataW.trod_bool hu hx
      exact ⟨[.bool b], ⟨b, rfl⟩, Cs.one rfl fun _ => .bool⟩
    · rename_i k hu
      cases T <;> first | (cases h; done) | skip
      simp only [decide_eq_true_eq] at h
      subst h
      obtain ⟨z, rfl, _, hw⟩ := DataW.trod_int hu hx
      exact ⟨[.int k z], ⟨z, rfl, hw⟩, Cs.one rfl fun _ => .int⟩
    · rename_i hu
      cases T <;> first | (cases h; done) | skip
      obtain ⟨s, rfl, _, hs⟩ := DataW.trod_string hu hx
      exact ⟨[.str s.data.toList], ⟨_, rfl, by simpa using hs⟩, Cs.one rfl fun lim => by
        obtain ⟨⟨l⟩⟩ := s
        exact VR.str (s := l)⟩
    · rename_i e hu
      cases T <;> first | (cases h; done) | skip
      rename_i E
      simp only [Bool.and_eq_true, decide_eq_true_eq] at h
      obtain ⟨hE, hsz⟩ := h
      rcases Go.Deep.open_slice hu hx with ⟨rfl, _⟩ | ⟨a, len, cap, m, n', D, Pl, rfl, _, hlc, hcm, hm, _, hel⟩
      · exact ⟨[.nils], Or.inl rfl, Cs.one rfl fun _ => .nils⟩
      · have hm' : m = cap := by simpa using hm
        subst hm'
        have hel' : ∀ i, ∃ (as : List AV) (cs' : List Value), i < len → (w.cells? 0 (a.add (i * P.cellsOf e)) (P.cellsOf e) = some cs' ∧ Shp E as ∧ Cs w cs' as) := by
          intro i
          by_cases hi : i < len
          · obtain ⟨cs', h1, h2⟩ := hel i (by omega)
            obtain ⟨as, s, c⟩ := open_ty n E e hE _ _ _ h2
            exact ⟨as, cs', fun _ => ⟨h1, s, c⟩⟩
          · exact ⟨[], [], fun h => absurd h hi⟩
        let A : Nat → List AV := fun i => (hel' i).choose
        have hA : ∀ i, i < len → ∃ cs', w.cells? 0 (a.add (i * P.cellsOf e)) (P.cellsOf e) = some cs' ∧ Shp E (A i) ∧ Cs w cs' (A i) := fun i hi => ⟨_, (hel' i).choose_spec.choose_spec hi⟩
        have hlen : ∀ i, i < len → (A i).length = P.cellsOf e := by
          intro i hi
          obtain ⟨cs', h1, _, h3⟩ := hA i hi
          rw [h3.1, (World.cells?_some h1).2.1]
        obtain ⟨f1, f2⟩ := flat_get hsz len hlen
        have hfl : ((List.range len).map A).flatten = (List.range len).flatMap A := by rw [List.flatMap_def]
        refine ⟨[.isl ((List.range len).map A).flatten ((List.range len).map A).length], Or.inr ⟨(List.range len).map A, rfl, by simp; omega, fun x hx => ?_⟩, Cs.one rfl fun lim => ?_⟩
        · obtain ⟨i, hi, rfl⟩ := List.mem_map.1 hx
          obtain ⟨_, _, s, _⟩ := hA i (by simpa using hi)
          exact s
        · rw [hfl]
          simp only [List.length_map, List.length_range]
          cases len with
          | zero => exact .isle
          | succ len =>
            obtain ⟨cs0, h0, _, _⟩ := hA 0 (by omega)
            have g0' := (World.cells?_some h0).2.2 0 hsz
            obtain ⟨blk, off, spot⟩ := a
            have hspot : spot = none := by
              have hv := g0'
              have hl := (World.cells?_some h0).2.1
              have hne : cs0[0]? ≠ none := by
                rw [Ne, List.getElem?_eq_none_iff]; omega
              rw [← hv] at hne
              simp only [Nat.zero_mul, Addr.add, if_true, World.cell?] at hne
              split at hne
              · split at hne
                · exact absurd rfl hne
                · rename_i hs; simpa using hs
              · exact absurd rfl hne
            subst hspot
            have hcell : ∀ i, i < (len + 1) * P.cellsOf e → ∃ v, w.cell? ⟨blk, off + i, none⟩ = some v ∧ ∀ b, ((List.range (len + 1)).flatMap A)[i]? = some b → b.one = true ∧ ∀ lim, VR (g0 w) [] [] w lim b v := by
              intro i hi
              have hq : i / P.cellsOf e < len + 1 := Nat.div_lt_of_lt_mul (by rw [Nat.mul_comm]; exact hi)
              have hr : i % P.cellsOf e < P.cellsOf e := Nat.mod_lt _ hsz
              obtain ⟨cs', h1, _, h3⟩ := hA _ hq
              have e1 := (World.cells?_some h1).2.2 _ hr
              have hl := (World.cells?_some h1).2.1
              have hadd : ∀ p q : Nat, ((⟨blk, off, none⟩ : Addr).add p).add q = ⟨blk, off + (p + q), none⟩ := by
                intro p q
                unfold Addr.add
                by_cases hp : p = 0
                · by_cases hq : q = 0 <;> simp [hp, hq]
                · by_cases hq : q = 0 <;> simp [hp, hq]; omega
              rw [hadd, Nat.div_add_mod' ] at e1
              have : cs'[i % P.cellsOf e]? = some (cs'[i % P.cellsOf e]'(by omega)) := List.getElem?_eq_getElem _
              refine ⟨_, e1.trans this, fun b hb => ?_⟩
              rw [f2 i hi] at hb
              obtain ⟨ho, v, hv, hvr⟩ := h3.2 _ b hb
              rw [this] at hv
              cases hv
              exact ⟨ho, hvr⟩
            refine .isl (fun i => (w.cell? ⟨blk, off + i, none⟩).getD default) hlc (fun i hi => ?_) (fun hne => ?_) (fun i b hb => ?_) (fun i b hb => ?_)
            · obtain ⟨v, hv, _⟩ := hcell i (by rw [f1] at hi; exact hi)
              rw [hv]; rfl
            · left
              obtain ⟨v, hv, _⟩ := hcell 0 (Nat.mul_pos (by omega) hsz)
              simp only [World.cell?] at hv
              have : blk < w.heap.size := by
                rcases Nat.lt_or_ge blk w.heap.size with h | h
                · exact h
                · rw [Array.getElem?_eq_none h] at hv; cases hv
              exact this
            · have hi : i < (len + 1) * P.cellsOf e := by rw [← f1]; exact (List.getElem?_eq_some_iff.1 hb).1
              obtain ⟨v, hv, hh⟩ := hcell i hi
              rw [hv]
              exact (hh b hb).2 0
            · have hi : i < (len + 1) * P.cellsOf e := by rw [← f1]; exact (List.getElem?_eq_some_iff.1 hb).1
              obtain ⟨v, hv, hh⟩ := hcell i hi
              exact (hh b hb).1
    · rename_i fs hu
      obtain ⟨xs, m, _, _, hl, hxs, hfs⟩ := DataW.trod_struct hu hx
      have := open_fs (n := n) (fun T t h fuel cs x hx => open_ty n T t h fuel cs x hx) (fun _ _ _ _ _ _ _ => trivial) hl (m := m) fs.toList T 0 h (by omega) (fun f hf => by
        obtain ⟨i, hi, rfl⟩ := List.getElem_of_mem hf
        have e := hfs i fs.toList[i] (by simp)
        have hi' : i < xs.length := by rw [hxs]; simpa using hi
        rw [List.getElem?_eq_getElem hi'] at e
        exact ⟨_, e⟩)
      simpa using this
    · rename_i k e hu
      simp only [Bool.and_eq_true, decide_eq_true_eq] at h
      obtain ⟨xs, m, _, _, hl, hxs, hfs⟩ := DataW.trod_array hu hx
      exact open_arr (fun T t h fuel cs x hx => open_ty n T t h fuel cs x hx) k T cs h.2 (by rw [hl, h.1]) (fun i hi => by
        have e := hfs i hi
        have hi' : i < xs.length := by omega
        rw [List.getElem?_eq_getElem hi'] at e
        exact ⟨_, e⟩)
    · cases h
/-- A parameter as one value. -/
def parV : Ty → List AV → AV
  | .cat _ _, as => .agg as
  | .unit, as => .agg as
  | _, as => as.headD .undef
theorem open_par {n : Nat} {T : Ty} {t : TypeId} {r : Reach} {b0 : Nat} {v : Value} {d : DataW H} {ps : List MemPlace} (hT : isTy P n t T = true) (hval : Value.okWide P w r b0 t v) (h : DataW.Trod enc P w 0 (fun _ => true) true t v d ps) :
    ∃ as, Shp T as ∧ VR (g0 w) [] [] w 1 (parV T as) v := by
  obtain ⟨fuel, hf⟩ := h
  obtain ⟨as, s, c⟩ := open_ty n T t hT _ _ _ hf
  refine ⟨as, s, ?_⟩
  have one : ∀ v', v.cells.toList = [v'] → v' = v → (∀ a b, T ≠ .cat a b) → T ≠ .unit → VR (g0 w) [] [] w 1 (parV T as) v := by
    intro v' hv he hT1 hT2
    rw [hv] at c
    have hl := c.1
    match as, hl with
    | [a], _ =>
      obtain ⟨_, u, hu, hvr⟩ := c.2 0 a rfl
      simp at hu
      subst hu he
      have : parV T [a] = a := by cases T <;> first | rfl | exact absurd rfl (hT1 _ _) | exact absurd rfl hT2
      rw [this]; exact hvr 1
  have agg : ∀ vs : Array Value, v = .agg vs → VR (g0 w) [] [] w 1 (.agg as) v := by
    intro vs hv
    subst hv
    have c' : Cs w vs.toList as := c
    refine .agg (fun i => vs[i]?.getD default) (by rw [c'.1]; simp) (fun i hi => ?_) (fun i a ha => ?_) (fun i a ha => (c'.2 i a ha).1)
    · have : i < vs.size := by have := c'.1; simp at this; omega
      simp [this]
    · obtain ⟨_, u, hu, hvr⟩ := c'.2 i a ha
      have : vs[i]? = some u := by simpa using hu
      rw [this]; exact hvr 1
  cases n with
  | zero => cases hT
  | succ n =>
    unfold isTy at hT
    split at hT
    · rename_i hu
      cases T <;> first | (cases hT; done) | skip
      obtain ⟨b, rfl⟩ := okWide_bool hu hval
      exact one (.bool b) rfl rfl (fun _ _ h => by cases h) (fun h => by cases h)
    · rename_i k hu
      cases T <;> first | (cases hT; done) | skip
      obtain ⟨b, rfl⟩ := okWide_int hu hval
      exact one _ rfl rfl (fun _ _ h => by cases h) (fun h => by cases h)
    · rename_i hu
      cases T <;> first | (cases hT; done) | skip
      obtain ⟨b, rfl⟩ := okWide_string hu hval
      exact one _ rfl rfl (fun _ _ h => by cases h) (fun h => by cases h)
    · rename_i e hu
      cases T <;> first | (cases hT; done) | skip
      obtain ⟨a, len, cap, rfl⟩ := okWide_slice hu hval
      exact one _ rfl rfl (fun _ _ h => by cases h) (fun h => by cases h)
    · rename_i fs hu
      obtain ⟨vs, hv, _⟩ := okWide_struct hu hval
      have := agg vs hv
      cases hl : fs.toList with
      | nil => rw [hl] at hT; cases T <;> first | (cases hT; done) | exact this
      | cons f fs' => rw [hl] at hT; cases T <;> first | (cases hT; done) | exact this
    · rename_i k e hu
      simp only [Bool.and_eq_true] at hT
      simp only [Value.okWide, hu] at hval
      obtain ⟨vs, hv, _⟩ := hval
      have := agg vs hv
      cases k with
      | zero => cases T <;> first | (cases hT.2; done) | exact this
      | succ k => cases T <;> first | (cases hT.2; done) | exact this
    · cases hT

/-! Behind the call -/
theorem Kept.same {w w' : World} (h : Kept w w') {p : MemPlace} (hp : p.block < w.heap.size) : w.sameAt w' p := by
  cases p with
  | cell b off => exact cell_old (h.old b hp) off
  | map b => exact h.old b hp
theorem trodAll_stays (hl : laidOutB P = true) {w' : World} (hk : Kept w w') {sp : Nat → Bool} : ∀ {ts : List TypeId} {vs : List Value} {ds : List (DataW H)} {ps : List MemPlace},
    (ts.all fun t => P.readableRec t && decide (t < P.types.size)) = true → DataW.TrodAll enc P w 0 (fun _ => true) true ts vs ds ps → (∀ p ∈ ps, p.block < w.heap.size) → (∀ p ∈ ps, sp p.block = true) →
    DataW.TrodAll enc P w' 0 sp true ts vs ds ps
  | [], [], [], ps, _, h, _, _ => h
  | t :: ts, v :: vs, d :: ds, ps, ht, h, hlt, hsp => by
    obtain ⟨p, q, h1, h2, rfl⟩ := h
    simp only [List.all_cons, Bool.and_eq_true, decide_eq_true_eq] at ht
    exact ⟨p, q, WideElems.Trod_stays hl ht.1.1 ht.1.2 h1 (fun x hx => hk.same (hlt x (by simp [hx]))) (fun x hx => hsp x (by simp [hx])),
      trodAll_stays hl hk ht.2 h2 (fun x hx => hlt x (by simp [hx])) (fun x hx => hsp x (by simp [hx])), rfl⟩
  | [], _ :: _, _, _, _, h, _, _ => by cases h
  | [], [], _ :: _, _, _, h, _, _ => by cases h
  | _ :: _, [], _, _, _, h, _, _ => by cases h
  | _ :: _, _ :: _, [], _, _, h, _, _ => by cases h
end
end Den
