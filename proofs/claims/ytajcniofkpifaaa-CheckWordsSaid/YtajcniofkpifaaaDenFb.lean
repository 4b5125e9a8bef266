/- A reading of den that the kernel steps through quickly: the run, and that it shows what den says. -/
import Derived.Test.YtajcniofkpifaaaDenFa
set_option linter.unusedSectionVars false
set_option linter.unusedVariables false
set_option linter.unusedSimpArgs false
namespace Den
open Go
variable [GTab]

/-! ### Operations -/

abbrev FC' := FuncId → List AV → Mo → Ms → KV → Bool
abbrev FOp := Nat → T → Mo → Ms → KV → Bool

noncomputable def fevK (n : Nat) (t : T) (x : Opd) (k : AV → Bool) : Bool :=
  @Opd.rec (fun _ => Nat → T → (AV → Bool) → Bool) (fun s n t k => T.getK (path n s) t k) (fun v _ _ k => k v) x n t k
theorem RT.ev {n t env} (h : RT n t env) (x : Opd) (k : AV → Bool) : fevK n t x k = k (ev env x) := by
  cases x with
  | t s => exact h.getK s k
  | c v => rfl

/-- Several operands. -/
noncomputable def fevsC : Opd → List Opd → (Nat → T → (List AV → Bool) → Bool) → Nat → T → (List AV → Bool) → Bool := fun x _ ih n t k => fevK n t x (fun v => ih n t (fun vs => k (v :: vs)))
noncomputable def fevs (n : Nat) (t : T) (l : List Opd) (k : List AV → Bool) : Bool := @List.rec Opd (fun _ => Nat → T → (List AV → Bool) → Bool) (fun _ _ k => k []) fevsC l n t k
theorem RT.evs {n t env} (h : RT n t env) : ∀ (l : List Opd) (k : List AV → Bool), fevs n t l k = k (l.map (Den.ev env))
  | [], k => rfl
  | x :: l, k => by
    have : fevs n t (x :: l) k = fevK n t x (fun v => fevs n t l (fun vs => k (v :: vs))) := rfl
    rw [this, h.ev]
    exact h.evs l _

noncomputable def ansV (o : Ans) (k : KV) : Bool := @Option.rec (AV × Mo × Ms) (fun _ => KV → Bool) (fun _ => false) (fun p k => @Prod.rec AV (Mo × Ms) (fun _ => KV → Bool) (fun v q k => @Prod.rec Mo Ms (fun _ => AV → KV → Bool) (fun O S v k => k v O S) q v k) p k) o k
theorem ansV_ok {o : Ans} {k : KV} (h : ansV o k = true) : ∃ v O S, o = some (v, O, S) ∧ k v O S = true := by
  cases o with
  | none => cases h
  | some p => obtain ⟨v, O, S⟩ := p; exact ⟨v, O, S, rfl, h⟩
theorem optK_ok {o : Option AV} {k : AV → Bool} (h : optK o k = true) : ∃ v, o = some v ∧ k v = true := by
  cases o with
  | none => cases h
  | some v => exact ⟨v, rfl, h⟩

/-- The plain way. -/
noncomputable def fgen (o : AO) : FOp := fun n t O S k => ansV (aop { env := toL n t, O, S } o) k

noncomputable def fo_mv (x : Opd) : FOp := fun n t O S k => fevK n t x (fun v => k v O S)
noncomputable def fo_pick (c a b : Opd) : FOp := fun n t O S k => fevK n t c (fun v => asBool v (fun b' => bif' b' (fevK n t a (fun v => k v O S)) (fevK n t b (fun v => k v O S))) false)
noncomputable def fo_ld (sz : Nat) (agg : Bool) (a : Opd) : FOp := fun n t O S k => fevK n t a (fun v => fload O S sz agg v (fun r => k r O S))
noncomputable def fo_st (sz : Nat) (a x : Opd) : FOp := fun n t O S k => fevK n t a (fun v => fevK n t x (fun y => fstore O S sz v y (fun O' S' => k .undef O' S')))
noncomputable def fo_nilc (x : Opd) (ok : TypeId → String → Bool) : FOp := fun n t O S k => fevK n t x (fun v => asRef v (fun _ _ _ => k v O S) (bif' (nilOkA ok v) (k v O S) false))
noncomputable def fo_bin (op : BinOp) (x y : Opd) : FOp := fun n t O S k => fevK n t x (fun v => fevK n t y (fun y => fbin op v y (fun r => k r O S)))
noncomputable def fo_eqn (q : NK) (neg : Bool) (x : Opd) : FOp := fun n t O S k => fevK n t x (fun v => optK ((isNilA q v).map fun t => .bool (if neg then !t else t)) (fun r => k r O S))
noncomputable def fo_un (op : UnOp) (x : Opd) : FOp := fun n t O S k => fevK n t x (fun v => optK (un op v) (fun r => k r O S))
noncomputable def fo_cvi (q : IntKind) (x : Opd) : FOp := fun n t O S k => fevK n t x (fun v => asInt v (fun _ m => asNat m (fun m => fwr q m (fun r => k r O S)) (k (wr q m) O S)) false)
noncomputable def fo_fld (off : Nat) (x : Opd) : FOp := fun n t O S k => fevK n t x (fun v => asRef v (fun d i o => fnat (Nat.add o off) (fun o' => k (.ref d i o') O S)) (optK (fldA off v) (fun r => k r O S)))
noncomputable def nthI (v : AV) (k : Nat → Bool) : Bool := asInt v (fun _ m => asNat m k false) false
noncomputable def ixN (sz : Nat) (v : AV) (i : Nat) (k : AV → Bool) : Bool := optK (ixaSl i sz v) k
noncomputable def ixS (m sz : Nat) (v : AV) (i : Nat) (k : AV → Bool) : Bool := bif' (Nat.blt i m) (optK (fldA (Nat.mul i sz) v) k) false
noncomputable def fo_ixa (arr : Option Nat) (sz : Nat) (x i : Opd) : FOp := fun n t O S k => fevK n t x (fun v => fevK n t i (fun w => nthI w (fun j => @Option.rec Nat (fun _ => Nat → AV → Nat → (AV → Bool) → Bool) ixN ixS arr sz v j (fun r => k r O S))))
noncomputable def fo_ixs (x i : Opd) : FOp := fun n t O S k => fevK n t x (fun v => fevK n t i (fun w => nthI w (fun j => asStr v (fun s => nthK s j (fun b => fnat b.toNat (fun m => k (.int .u8 (.ofNat m)) O S))) false)))
noncomputable def fo_ext (x : Opd) (i : Nat) : FOp := fun n t O S k => fevK n t x (fun v => asTup v (fun vs => nthK vs i (fun r => k r O S)) false)
noncomputable def fo_len (q : LK) (x : Opd) : FOp := fun n t O S k => fevK n t x (fun v => optK ((lenA O S q v).map fun n => .int .i64 (n : Nat)) (fun r => asInt r (fun kk m => asNat m (fun m => fnat m (fun m => k (.int kk (.ofNat m)) O S)) (k r O S)) (k r O S)))
noncomputable def fo_mki (ty : TypeId) (x : Opd) : FOp := fun n t O S k => fevK n t x (fun v => k (.iface ty v) O S)

noncomputable def fo_alloc (zero : List AV) (obj : Bool) : FOp := fun _ _ O S k => fnew obj O S (.arr zero) (fun d i O' S' => k (.ref d i 0) O' S')
noncomputable def fboxN (obj : Bool) (v : AV) (cs : List AV) (O : Mo) (S : Ms) (k : KV) : Bool := bif' (flow (Nat.succ (newD S obj)) v) (fnew obj O S (.arr cs) (fun d i O' S' => k (.ref d i 0) O' S')) false
noncomputable def fbox1 (sz : Nat) (obj : Bool) (v : AV) (O : Mo) (S : Ms) (k : KV) : Bool := bif' (Nat.beq sz 1) (fnew obj O S (.arr [v]) (fun d i O' S' => k (.ref d i 0) O' S')) false
noncomputable def fo_box (sz : Nat) (x : Opd) (obj : Bool) : FOp := fun n t O S k => fevK n t x (fun v => asOne v (fun _ _ => fbox1 sz obj v O S k) (fun _ => fbox1 sz obj v O S k) (fun _ => fbox1 sz obj v O S k)
  (asAgg v (fun cs => bif' (flenEq cs sz) (fboxN obj v cs O S k) false) (bif' v.okv (bif' (flenEq v.cells sz) (fboxN obj v v.cells O S k) false) false)))

/-- The cells of a struct, or of a slice. -/
noncomputable def fbuildC : (Nat × Nat × Opd) → List (Nat × Nat × Opd) → (Nat → T → List AV → (List AV → Bool) → Bool) → Nat → T → List AV → (List AV → Bool) → Bool := fun p _ ih n t cells k =>
  @Prod.rec Nat (Nat × Opd) (fun _ => (Nat → T → List AV → (List AV → Bool) → Bool) → Nat → T → List AV → (List AV → Bool) → Bool) (fun off q ih n t cells k =>
    @Prod.rec Nat Opd (fun _ => Nat → (Nat → T → List AV → (List AV → Bool) → Bool) → Nat → T → List AV → (List AV → Bool) → Bool) (fun sz x off ih n t cells k =>
      fevK n t x (fun v => asOne v (fun _ _ => bif' (Nat.beq sz 1) (lsetK cells off v (fun c => ih n t c k)) false) (fun _ => bif' (Nat.beq sz 1) (lsetK cells off v (fun c => ih n t c k)) false) (fun _ => bif' (Nat.beq sz 1) (lsetK cells off v (fun c => ih n t c k)) false)
        (bif' v.okv (bif' (flenEq v.cells sz) (bif' (Nat.ble (Nat.add off sz) cells.length) (ih n t (putAt cells off v.cells) k) false) false) false))) q off ih n t cells k) p ih n t cells k
noncomputable def fbuild (n : Nat) (t : T) (l : List (Nat × Nat × Opd)) (cells : List AV) (k : List AV → Bool) : Bool := @List.rec (Nat × Nat × Opd) (fun _ => Nat → T → List AV → (List AV → Bool) → Bool) (fun _ _ cells k => k cells) fbuildC l n t cells k
noncomputable def fo_build (zero : List AV) (parts : List (Nat × Nat × Opd)) : FOp := fun n t O S k => fbuild n t parts zero (fun cs => k (.agg cs) O S)
noncomputable def fbslB (sz len : Nat) (obj : Bool) (cs : List AV) (O : Mo) (S : Ms) (k : KV) : Bool := bif' (flowAll (Nat.succ (newD S obj)) cs) (fnew obj O S (.buf sz cs) (fun d i O' S' => flenK cs (fun tot => k (.bref d i 0 len tot) O' S'))) false
noncomputable def fbslI (_ len : Nat) (_ : Bool) (cs : List AV) (O : Mo) (S : Ms) (k : KV) : Bool := bif' (Nat.beq len 0) (k .emp O S) (bif' (flowAll 0 cs) (k (.isl cs len) O S) false)
noncomputable def fo_bslice (zero : List AV) (sz len : Nat) (parts : List (Nat × Opd)) (buf obj : Bool) : FOp := fun n t O S k =>
  fbuild n t (parts.map fun (i, x) => (i * sz, sz, x)) (repCells zero len) (fun cs => @Bool.rec (fun _ => Nat → Nat → Bool → List AV → Mo → Ms → KV → Bool) fbslI fbslB buf sz len obj cs O S k)
noncomputable def fappN (sz bytes : Nat) (obj : Bool) (new : List AV) (m : Nat) (O : Mo) (S : Ms) (k : KV) : Bool :=
  bif' (Nat.ble (Nat.mul (Nat.mul m bytes) 2) 140737488355328) (bif' (flowAll (Nat.succ (newD S obj)) new) (fnew obj O S (.buf sz new) (fun d i O' S' => flenK new (fun tot => k (.bref d i 0 m tot) O' S'))) false) false
noncomputable def fappG (sz bytes : Nat) (obj : Bool) (s : AV) (O : Mo) (S : Ms) (k : KV) (new : List AV) (m : Nat) : Bool :=
  asBr s (fappN sz bytes obj new m O S k) (fappN sz bytes obj new m O S k) (fun d i off len tot => fappB O S sz bytes new m d i off len tot k) false
noncomputable def fcont (O : Mo) (S : Ms) (sz : Nat) (x : AV) (k : List AV → Nat → Bool) : Bool :=
  asIsl x (fun cs len => bif' (flenEq cs (Nat.mul len sz)) (k cs len) false) (@Option.rec (List AV × Nat) (fun _ => (List AV → Nat → Bool) → Bool) (fun _ => false) (fun p k => @Prod.rec (List AV) Nat (fun _ => (List AV → Nat → Bool) → Bool) (fun a b k => k a b) p k) (conts O S sz x) k)
noncomputable def fo_app (sz bytes : Nat) (s x : Opd) (obj : Bool) : FOp := fun n t O S k => fevK n t s (fun sv => fevK n t x (fun xv => fcont O S sz xv (fappG sz bytes obj sv O S k)))

noncomputable def fbnd (n : Nat) (t : T) (o : Option Opd) (d : Nat) (k : Nat → Bool) : Bool := @Option.rec Opd (fun _ => Nat → T → Nat → (Nat → Bool) → Bool) (fun _ _ d k => k d) (fun x n t _ k => fevK n t x (fun v => nthI v k)) o n t d k
noncomputable def fbnds (n : Nat) (t : T) (lo hi : Option Opd) (len : Nat) (k : Nat → Nat → Bool) : Bool := fbnd n t lo 0 (fun l => fbnd n t hi len (fun h => bif' (Nat.ble l h) (bif' (Nat.ble h len) (k l h) false) false))
noncomputable def fslcN (sz : Nat) (x : Opd) (lo hi : Option Opd) : FOp := fun n t O S k => fevK n t x (fun v => asSl v (fbnds n t lo hi 0 (fun _ _ => k .nils O S))
  (fun cs len => fbnds n t lo hi len (fun l h => fnat (Nat.sub h l) (fun m => k (.isl ((cs.drop (l * sz)).take ((h - l) * sz)) m) O S)))
  (fun d i off len cap => fbnds n t lo hi len (fun l h => fnat (Nat.add off (Nat.mul l sz)) (fun o => fnat (Nat.sub h l) (fun m => fnat (Nat.sub cap l) (fun c => k (.sref d i o m c) O S)))))
  (fun d i off len tot => fbnds n t lo hi len (fun l h => fnat (Nat.add off (Nat.mul l sz)) (fun o => fnat (Nat.sub h l) (fun m => k (.bref d i o m tot) O S)))) false)
noncomputable def fslcA (m sz : Nat) (x : Opd) (lo hi : Option Opd) : FOp := fun n t O S k => fevK n t x (fun v => asRef v
  (fun d i off => fbnds n t lo hi m (fun l h => fnat (Nat.add off (Nat.mul l sz)) (fun o => fnat (Nat.sub h l) (fun e => fnat (Nat.sub m l) (fun c => k (.sref d i o e c) O S))))) false)
noncomputable def fo_slc (arr : Option Nat) (sz : Nat) (x : Opd) (lo hi : Option Opd) : FOp := @Option.rec Nat (fun _ => Nat → Opd → Option Opd → Option Opd → FOp) fslcN fslcA arr sz x lo hi
noncomputable def cvsX (O : Mo) (S : Ms) (v : AV) : Option AV :=
  match conts O S 1 v with
  | some (cs, _) => match v with
    | .str _ => none
    | _ => (bytesOf cs).map .str
  | none => none
noncomputable def fo_cvs (x : Opd) : FOp := fun n t O S k => fevK n t x (fun v => optK (cvsX O S v) (fun r => k r O S))
noncomputable def fo_cvn (x : Opd) : FOp := fun n t O S k => fevK n t x (fun v => asStr v (fun s => k (.str s) O S) false)
noncomputable def fo_eqb (neg : Bool) (x y : Opd) : FOp := fun n t O S k => fevK n t x (fun v => fevK n t y (fun w => asBool v (fun a => asBool w (fun b => fbool (if neg then !(a == b) else (a == b)) (fun r => k r O S)) false) false))
noncomputable def fo_eqs (neg : Bool) (ks : List SK) (x y : Opd) : FOp := fun n t O S k => fevK n t x (fun v => fevK n t y (fun w => asAgg v (fun a => asAgg w (fun b => optK ((eqCells ks a b).map fun t => .bool (if neg then !t else t)) (fun r => k r O S)) false) false))
noncomputable def fo_ixv (m sz : Nat) (agg : Bool) (x i : Opd) : FOp := fun n t O S k => fevK n t x (fun v => fevK n t i (fun w => nthI w (fun j => asAgg v (fun cs => bif' (Nat.blt j m) (optK (takeV sz agg (cs.drop (j * sz))) (fun r => k r O S)) false) false)))
noncomputable def fo_fdv (off sz : Nat) (agg : Bool) (x : Opd) : FOp := fun n t O S k => fevK n t x (fun v => asAgg v (fun cs => optK (takeV sz agg (cs.drop off)) (fun r => k r O S)) false)
noncomputable def fo_sls (x : Opd) (lo hi : Option Opd) : FOp := fun n t O S k => fevK n t x (fun v => asStr v (fun s => flenK s (fun len => fbnds n t lo hi len (fun l h => k (.str ((s.drop l).take (h - l))) O S))) false)
noncomputable def frep (zero : List AV) (c : Nat) (k : List AV → Bool) : Bool := @Nat.rec (fun _ => (List AV → Bool) → Bool) (fun k => k []) (fun _ ih k => ih (fun l => fappK zero l k)) c k
noncomputable def fo_mks (zero : List AV) (sz bytes : Nat) (l c : Opd) (obj : Bool) : FOp := fun n t O S k => fevK n t l (fun v => fevK n t c (fun w => nthI v (fun l => nthI w (fun c =>
  bif' (Nat.beq l c) (bif' (Nat.ble (Nat.mul c bytes) 140737488355328) (bif' (Nat.blt c 4611686018427387904) (frep zero c (fun cs => fnew obj O S (.buf sz cs) (fun d i O' S' => fnat (Nat.mul l sz) (fun tot => k (.bref d i 0 l tot) O' S')))) false) false) false))))

noncomputable def fo_mkv (name : String) (x : Opd) : FOp := fun n t O S k => fevK n t x (fun v => asIface v (fun ty _ => k (.fm ty name) O S) false)
noncomputable def fo_tas (holds : TypeId → Option Bool) (unw ok : Bool) (zero : AV) (x : Opd) : FOp := fun n t O S k => fevK n t x (fun v => optK (tasA holds unw ok zero v) (fun r => k r O S))

/-- Calls. -/
noncomputable def fo_call (fc : FC') (f : FuncId) (args : List Opd) : FOp := fun n t O S k => fevs n t args (fun vs => fc f vs O S k)
noncomputable def fo_calld (fc : FC') (x : Opd) (args : List Opd) : FOp := fun n t O S k => fevK n t x (fun v => asFun v (fun f caps => fevs n t args (fun vs => fc f (vs ++ caps) O S k)) false)
noncomputable def fo_invk (cfg : Cfg) (fc : FC') (x : Opd) (m : String) (args : List Opd) : FOp := fun n t O S k => fevK n t x (fun v => asIface v (fun ty r => fevs n t args (fun vs => @Option.rec FuncId (fun _ => FC' → List AV → Mo → Ms → KV → Bool) (fun _ _ _ _ _ => false) (fun f fc vs O S k => fc f vs O S k) (cfg.meth ty m) fc (r :: vs) O S k)) false)

noncomputable def fop (cfg : Cfg) (fc : FC') (o : AO) : FOp :=
  @AO.rec (fun _ => FOp) fo_mv fo_pick fo_alloc fo_box fo_build fo_bslice fo_ld fo_st fo_nilc fo_bin
    fo_eqb fo_eqn fo_eqs fo_un fo_cvi fo_cvn fo_cvs (fun x => fgen (.cvb x)) fo_slc fo_sls
    fo_fld fo_ixa fo_ixs fo_ixv fo_fdv fo_ext (fo_call fc) (fo_calld fc) (fo_invk cfg fc) fo_len fo_app (fun s x y => fgen (.cpy s x y)) (fun z x => fgen (.clr z x))
    (fun b x l => fgen (.mx b x l)) fo_mks (fun o => fgen (.mkm o)) (fun q z b m k => fgen (.lkp q z b m k)) (fun q m k v => fgen (.mup q m k v)) (fun f l => fgen (.mkf f l)) fo_mki fo_mkv fo_tas o

/-! ### Runs -/

abbrev FRun := Nat → T → Mo → Ms → (T → Mo → Ms → Bool) → Bool
/-- What must not be disturbed. -/
noncomputable def fchk (n : Nat) (t : T) (O : Mo) (S : Ms) (l : List (Nat × AO)) (r : Bool) : Bool :=
  @List.rec (Nat × AO) (fun _ => Nat → T → Mo → Ms → Bool → Bool) (fun _ _ _ _ r => r) (fun p l _ n t O S r => bif' (chks { env := toL n t, O, S } (p :: l)) r false) l n t O S r
noncomputable def fput (dst : Option Nat) (n : Nat) (t : T) (v : AV) (k : T → Bool) : Bool :=
  @Option.rec Nat (fun _ => Nat → T → AV → (T → Bool) → Bool) (fun _ t _ k => k t) (fun s n t v k => T.setK (path n s) v t k) dst n t v k
noncomputable def xnorB (a b : Bool) : Bool := @Bool.rec (fun _ => Bool → Bool) (fun b => @Bool.rec (fun _ => Bool) true false b) (fun b => b) a b
noncomputable def fguardC (p : Nat × Bool) (run skip : FRun) : FRun := fun n t O S k =>
  @Prod.rec Nat Bool (fun _ => FRun → FRun → FRun) (fun s want run skip n t O S k => T.getK (path n s) t (fun v => asBool v (fun b => bif' (xnorB b want) (run n t O S k) (skip n t O S k))
    (asTup v (fun vs => @List.rec AV (fun _ => Bool → Bool) (fun x => x) (fun _ _ _ _ => false) vs (skip n t O S k)) false))) p run skip n t O S k
noncomputable def fguard (g : Option (Nat × Bool)) (run : FRun) (skip : FRun) : FRun :=
  @Option.rec (Nat × Bool) (fun _ => FRun → FRun → FRun) (fun run _ => run) fguardC g run skip
noncomputable def fopsR (cfg : Cfg) (fc : FC') (dst : Option Nat) (o : AO) (chk : List (Nat × AO)) (ih : FRun) : FRun :=
  fun n t O S k => fop cfg fc o n t O S (fun v O' S' => fchk n t O' S' chk (fput dst n t v (fun t' => ih n t' O' S' k)))
noncomputable def fopsS (dst : Option Nat) (ih : FRun) : FRun := fun n t O S k => fput dst n t (.tup []) (fun t' => ih n t' O S k)
noncomputable def fopsC (cfg : Cfg) (fc : FC') : AOp → List AOp → FRun → FRun := fun o _ ih =>
  @AOp.rec (fun _ => Cfg → FC' → FRun → FRun) (fun dst g o chk cfg fc ih => fguard g (fopsR cfg fc dst o chk ih) (fopsS dst ih)) o cfg fc ih
noncomputable def fopsN : FRun := fun _ t O S k => k t O S
noncomputable def fops (cfg : Cfg) (fc : FC') (l : List AOp) : FRun := @List.rec AOp (fun _ => FRun) fopsN (fopsC cfg fc) l

abbrev FX := Nat → T → Mo → Ms → (Ex → T → Mo → Ms → Bool) → Bool
noncomputable def fxSeqK (n : Nat) (ihb : FX) (k : Ex → T → Mo → Ms → Bool) : Ex → T → Mo → Ms → Bool := fun e t O S =>
  @Ex.rec (fun _ => Nat → FX → (Ex → T → Mo → Ms → Bool) → T → Mo → Ms → Bool) (fun n ihb k t O S => ihb n t O S k) (fun i _ _ k t O S => k (.exit i) t O S) (fun _ _ k t O S => k .ret t O S) e n ihb k t O S
noncomputable def fxSeq : FX → FX → FX := fun iha ihb n t O S k => iha n t O S (fxSeqK n ihb k)
noncomputable def fxCond (c : Opd) (iha ihb : FX) : FX := fun n t O S k => fevK n t c (fun v => asBool v (fun b => bif' b (iha n t O S k) (ihb n t O S k)) false)
noncomputable def fxBlockK (id : Nat) (k : Ex → T → Mo → Ms → Bool) : Ex → T → Mo → Ms → Bool := fun e t O S =>
  @Ex.rec (fun _ => Nat → (Ex → T → Mo → Ms → Bool) → T → Mo → Ms → Bool) (fun _ k t O S => k .normal t O S) (fun i id k t O S => bif' (Nat.beq i id) (k .normal t O S) (k (.exit i) t O S)) (fun _ k t O S => k .ret t O S) e id k t O S
noncomputable def fxBlock (id : Nat) (iha : FX) : FX := fun n t O S k => iha n t O S (fxBlockK id k)
/-- All slots anew. -/
noncomputable def fromL (l : List AV) (n : Nat) (i : Nat) (t : T) (k : T → Bool) : Bool :=
  @List.rec AV (fun _ => Nat → Nat → T → (T → Bool) → Bool) (fun _ _ t k => k t) (fun v _ ih n i t k => T.setK (path n i) v t (fun t' => ih n (Nat.succ i) t' k)) l n i t k
noncomputable def fkeep (live : List Nat) (n : Nat) (t : T) (k : T → Bool) : Bool :=
  @List.rec Nat (fun _ => Nat → T → (T → Bool) → Bool) (fun _ t k => k t) (fun i l _ n t k => fromL (keep (i :: l) (toL n t)) n 0 (baseT (dep n)) k) live n t k
noncomputable def fxLoop (N : Nat) (live : List Nat) (iha : FX) : FX :=
  @Nat.rec (fun _ => List Nat → FX → FX) (fun _ _ _ _ _ _ _ => false) (fun _ ih live iha n t O S k => fkeep live n t (fun t' => iha n t' O S (fxSeqK n (ih live iha) k))) N live iha
noncomputable def fexec (cfg : Cfg) (fc : FC') (N : Nat) (c : AC) : FX :=
  @AC.rec (fun _ => FX) (fun _ l n t O S k => fops cfg fc l n t O S (k .normal)) (fun _ _ => fxSeq) (fun c _ _ => fxCond c) (fun id _ => fxBlock id) (fun live _ => fxLoop N live)
    (fun id _ t O S k => k (.exit id) t O S) (fun _ t O S k => k .ret t O S) (fun _ t O S k => k .normal t O S) c

/-! ### Functions -/

/-- A value that holds no addresses leaves its frame as it is; one that holds older ones, too. -/
noncomputable def fsnapR (S : Ms) (d : Nat) (v : AV) (k : AV → Bool) : Bool := flenK S (fun m => bif' (Nat.blt d m) (k v) false)
noncomputable def fsnapG (S : Ms) (v : AV) (k : AV → Bool) : Bool := asRef v (fun d _ _ => fsnapR S d v k) (asIface v (fun _ u => asRef u (fun d _ _ => fsnapR S d v k) (optK (snap2 S v) k)) (asAgg v (fun cs => bif' (fplain cs) (k v) (optK (snap2 S v) k)) (optK (snap2 S v) k)))
noncomputable def fsnap2 (S : Ms) (v : AV) (k : AV → Bool) : Bool := asOne v (fun _ _ => k v) (fun _ => k v) (fun _ => k v) (fsnapG S v k)
noncomputable def fsnapT (S : Ms) (l : List AV) (k : List AV → Bool) : Bool := @List.rec AV (fun _ => Ms → (List AV → Bool) → Bool) (fun _ k => k []) (fun v _ ih S k => fsnap2 S v (fun v' => ih S (fun vs => k (v' :: vs)))) l S k
noncomputable def fsnap (S : Ms) (v : AV) (k : AV → Bool) : Bool := asTup v (fun vs => fsnapT S vs (fun vs' => k (.tup vs'))) (fsnap2 S v k)
noncomputable def fdrop (S : Ms) (k : Ms → Bool) : Bool :=
  @List.rec (List ABlk) (fun _ => (Ms → Bool) → Bool) (fun k => k []) (fun a l ih k => @List.rec (List ABlk) (fun _ => List ABlk → ((Ms → Bool) → Bool) → (Ms → Bool) → Bool) (fun _ _ k => k []) (fun _ _ _ a ih k => ih (fun l' => k (a :: l'))) l a ih k) S k
noncomputable def fpush (S : Ms) (k : Ms → Bool) : Bool := @List.rec (List ABlk) (fun _ => (Ms → Bool) → Bool) (fun k => k [[]]) (fun a _ ih k => ih (fun l' => k (a :: l'))) S k
noncomputable def ffinV (own : Bool) (O : Mo) (S : Ms) (v : AV) (k : KV) : Bool :=
  @Bool.rec (fun _ => Mo → Ms → AV → KV → Bool) (fun O S v k => fsnap S v (fun v' => fdrop S (fun S' => k v' O S'))) (fun O S v k => ansV ((moveV S v).map fun (v, Sb) => (v, O, Sb)) k) own O S v k
/-- The results. -/
noncomputable def fresC : RV → List RV → (Nat → T → Mo → Ms → (List AV → Bool) → Bool) → Nat → T → Mo → Ms → (List AV → Bool) → Bool := fun r _ ih n t O S k =>
  @RV.rec (fun _ => (Nat → T → Mo → Ms → (List AV → Bool) → Bool) → Nat → T → Mo → Ms → (List AV → Bool) → Bool)
    (fun s ih n t O S k => T.getK (path n s) t (fun v => ih n t O S (fun vs => k (v :: vs))))
    (fun a sz g ih n t O S k => T.getK (path n a) t (fun p => fload O S sz g p (fun v => ih n t O S (fun vs => k (v :: vs))))) r ih n t O S k
noncomputable def fres (l : List RV) (n : Nat) (t : T) (O : Mo) (S : Ms) (k : List AV → Bool) : Bool := @List.rec RV (fun _ => Nat → T → Mo → Ms → (List AV → Bool) → Bool) (fun _ _ _ _ k => k []) fresC l n t O S k
noncomputable def fone (l : List AV) (k : AV → Bool) : Bool := @List.rec AV (fun _ => (AV → Bool) → Bool) (fun k => k (.tup [])) (fun v r _ k => @List.rec AV (fun _ => AV → (AV → Bool) → Bool) (fun v k => k v) (fun w r _ v k => k (.tup (v :: w :: r))) r v k) l k
noncomputable def ffinR (F : AFn) (own : Bool) (t : T) (O : Mo) (S : Ms) (k : KV) : Bool := fres F.res F.ntmps t O S (fun vs => fone vs (fun v => ffinV own O S v k))
noncomputable def ffin (F : AFn) (own : Bool) (k : KV) : Ex → T → Mo → Ms → Bool := fun e t O S =>
  @Ex.rec (fun _ => AFn → Bool → T → Mo → Ms → KV → Bool) (ffinR) (fun _ _ _ _ _ _ _ => false) ffinR e F own t O S k
noncomputable def fbody (cfg : Cfg) (fc : FC') (N : Nat) (own : Bool) (F : AFn) (args : List AV) (O : Mo) (S : Ms) (k : KV) : Bool :=
  fpush S (fun S' => fromL args F.ntmps 0 (baseT (dep F.ntmps)) (fun t => fexec cfg fc N F.body F.ntmps t O S' (ffin F own k)))
noncomputable def fcode (F : Option AFn) (cfg : Cfg) (fc : FC') (N : Nat) (own : Bool) (args : List AV) (O : Mo) (S : Ms) (k : KV) : Bool :=
  @Option.rec AFn (fun _ => Cfg → FC' → Nat → Bool → List AV → Mo → Ms → KV → Bool) (fun _ _ _ _ _ _ _ _ => false) (fun F cfg fc N own args O S k => fbody cfg fc N own F args O S k) F cfg fc N own args O S k
/-- Functions that are taken by what they answer, in the quick form. -/
abbrev FPr := FuncId → Option (List AV → Mo → Ms → KV → Bool)
noncomputable def fdenB (cfg : Cfg) (n : Nat) (ih : Cfg → FPr → FC') (fp : FPr) : FC' := fun f args O S k =>
  @Option.rec (List AV → Mo → Ms → Ans) (fun _ => Cfg → Nat → FC' → FC') (fun cfg n ih f args O S k => fcode (cfg.code f) cfg ih n (cfg.own f) args O S k) (fun g _ _ _ _ args O S k => ansV (g args O S) k) (cfg.prim f) cfg n (ih cfg fp) f args O S k
noncomputable def fden (cfg : Cfg) (fp : FPr) (n : Nat) : FC' :=
  @Nat.rec (fun _ => Cfg → FPr → FC') (fun _ _ _ _ _ _ _ => false)
    (fun n ih cfg fp f args O S k => @Option.rec (List AV → Mo → Ms → KV → Bool) (fun _ => Cfg → Nat → (Cfg → FPr → FC') → FPr → FC') fdenB (fun g _ _ _ _ _ args O S k => g args O S k) (fp f) cfg n ih fp f args O S k) n cfg fp
/-- The quick form says no more. -/
def FpOk (cfg : Cfg) (fp : FPr) : Prop := ∀ f g, fp f = some g → ∃ p, cfg.prim f = some p ∧ ∀ args O S k, g args O S k = true → ∃ v O' S', p args O S = some (v, O', S') ∧ k v O' S' = true

/-! ### What it shows -/

/-- The calls' two readings. -/
def CallsAs (dc : FuncId → List AV → Mo → Ms → Ans) (fc : FC') : Prop := ∀ f args O S k, fc f args O S k = true → ∃ v O' S', dc f args O S = some (v, O', S') ∧ k v O' S' = true

section
variable {cfg : Cfg} {dc : FuncId → List AV → Mo → Ms → Ans} {fc : FC'}

/-- An operation's two readings. -/
def OpAs (cfg : Cfg) (dc : FuncId → List AV → Mo → Ms → Ans) (o : AO) (F : FOp) : Prop := ∀ n t O S k env, RT n t env → F n t O S k = true → ∃ v O' S', opx cfg dc { env, O, S } o = some (v, O', S') ∧ k v O' S' = true

theorem fgen_as {o : AO} (hc : o.isCall = false) : OpAs cfg dc o (fgen o) := fun n t O S k env h hk => by
  unfold fgen at hk
  rw [h.toL] at hk
  obtain ⟨v, O', S', e, hk'⟩ := ansV_ok hk
  exact ⟨v, O', S', by simp [opx, hc, e], hk'⟩

theorem op_pure {o : AO} {env : List AV} {O S} {v : AV} (hc : o.isCall = false) (h : aop { env, O, S } o = some (v, O, S)) : opx cfg dc { env, O, S } o = some (v, O, S) := by
  simp [opx, hc, h]

theorem nthI_eq (v : AV) (k : Nat → Bool) : nthI v k = optB (nth v) k := by
  unfold nthI
  rw [asInt_eq]
  cases v <;> try rfl
  rename_i kk m
  cases m with
  | ofNat m => simp [nth]
  | negSucc m =>
    have : ¬ (0 ≤ Int.negSucc m) := by omega
    simp [nth]
theorem RT.bnd {n t env} (h : RT n t env) (o : Option Opd) (d : Nat) (k : Nat → Bool) : fbnd n t o d k = optB (bnd env o d) k := by
  cases o with
  | none => rfl
  | some x =>
    have : fbnd n t (some x) d k = fevK n t x (fun v => nthI v k) := rfl
    rw [this, h.ev, nthI_eq]; rfl
theorem RT.bnds {n t env} (h : RT n t env) {lo hi : Option Opd} {len : Nat} {k : Nat → Nat → Bool} (hk : fbnds n t lo hi len k = true) : ∃ l h, bounds env lo hi len = some (l, h) ∧ k l h = true := by
  unfold fbnds at hk
  rw [h.bnd] at hk
  cases hl : Den.bnd env lo 0 with
  | none => rw [hl] at hk; cases hk
  | some l =>
    rw [hl] at hk
    simp only [optB_some] at hk
    rw [h.bnd] at hk
    cases hh : Den.bnd env hi len with
    | none => rw [hh] at hk; cases hk
    | some r =>
      rw [hh] at hk
      simp only [optB_some, ble_eq] at hk
      by_cases c1 : l ≤ r
      · by_cases c2 : r ≤ len
        · simp only [c1, c2, decide_true, bif'_true] at hk
          exact ⟨l, r, by simp [bounds, hl, hh, c1, c2], hk⟩
        · simp only [c1, c2, decide_true, decide_false, bif'_true, bif'_false] at hk; cases hk
      · simp only [c1, decide_false, bif'_false] at hk; cases hk
theorem bif'_ok {b x : Bool} (h : bif' b x false = true) : b = true ∧ x = true := by
  cases b with
  | true => exact ⟨rfl, h⟩
  | false => cases h
theorem flenEq_ok {l : List AV} {n : Nat} (h : flenEq l n = true) : l.length = n := by rw [flenEq_eq] at h; simpa using h
theorem ble_ok {m n : Nat} (h : Nat.ble m n = true) : m ≤ n := Nat.le_of_ble_eq_true h
theorem beq_ok {m n : Nat} (h : Nat.beq m n = true) : m = n := Nat.eq_of_beq_eq_true h

theorem box_ok {O : Mo} {S : Ms} {sz : Nat} {obj : Bool} {v : AV} {k : KV}
    (h : asOne v (fun _ _ => fbox1 sz obj v O S k) (fun _ => fbox1 sz obj v O S k) (fun _ => fbox1 sz obj v O S k)
      (asAgg v (fun cs => bif' (flenEq cs sz) (fboxN obj v cs O S k) false) (bif' v.okv (bif' (flenEq v.cells sz) (fboxN obj v v.cells O S k) false) false)) = true) :
    v.okv = true ∧ v.cells.length = sz ∧ v.low (newD S obj + 1) = true ∧ k (.ref (newD S obj) (newK O S obj) 0) (newO O obj (.arr v.cells)) (newS S obj (.arr v.cells)) = true := by
  have one : v.okv = true → v.cells = [v] → (∀ lim, v.low lim = true) → fbox1 sz obj v O S k = true → v.okv = true ∧ v.cells.length = sz ∧ v.low (newD S obj + 1) = true ∧ k (.ref (newD S obj) (newK O S obj) 0) (newO O obj (.arr v.cells)) (newS S obj (.arr v.cells)) = true := by
    intro h1 h2 h3 hk
    obtain ⟨e1, e2⟩ := bif'_ok hk
    have := fnew_ok e2
    rw [h2]
    exact ⟨h1, by simp [beq_ok e1], h3 _, this⟩
  have many : ∀ cs, v.cells = cs → v.okv = true → cs.length = sz → fboxN obj v cs O S k = true → v.okv = true ∧ v.cells.length = sz ∧ v.low (newD S obj + 1) = true ∧ k (.ref (newD S obj) (newK O S obj) 0) (newO O obj (.arr v.cells)) (newS S obj (.arr v.cells)) = true := by
    intro cs hcs h1 h2 hk
    obtain ⟨e1, e2⟩ := bif'_ok hk
    have := fnew_ok e2
    subst hcs
    exact ⟨h1, h2, flow_eq e1, this⟩
  rw [asOne_eq] at h
  split at h
  · exact one rfl rfl (fun _ => rfl) h
  · exact one rfl rfl (fun _ => rfl) h
  · exact one rfl rfl (fun _ => rfl) h
  · rw [asAgg_eq] at h
    split at h
    · obtain ⟨e1, e2⟩ := bif'_ok h
      exact many _ rfl rfl (flenEq_ok e1) e2
    · obtain ⟨e1, e2⟩ := bif'_ok h
      obtain ⟨e3, e4⟩ := bif'_ok e2
      exact many _ rfl e1 (flenEq_ok e3) e4

theorem RT.build {n t env} (ht : RT n t env) : ∀ (l : List (Nat × Nat × Opd)) (cells : List AV) (k : List AV → Bool), fbuild n t l cells k = true → ∃ cs, buildA env cells l = some cs ∧ k cs = true
  | [], cells, k, h => ⟨cells, rfl, h⟩
  | (off, sz, x) :: l, cells, k, h => by
    have h' : fevK n t x (fun v => asOne v (fun _ _ => bif' (Nat.beq sz 1) (lsetK cells off v (fun c => fbuild n t l c k)) false) (fun _ => bif' (Nat.beq sz 1) (lsetK cells off v (fun c => fbuild n t l c k)) false) (fun _ => bif' (Nat.beq sz 1) (lsetK cells off v (fun c => fbuild n t l c k)) false)
        (bif' v.okv (bif' (flenEq v.cells sz) (bif' (Nat.ble (Nat.add off sz) cells.length) (fbuild n t l (putAt cells off v.cells) k) false) false) false)) = true := h
    rw [ht.ev] at h'
    generalize hv : Den.ev env x = v at h'
    have one : v.okv = true → v.cells = [v] → bif' (Nat.beq sz 1) (lsetK cells off v (fun c => fbuild n t l c k)) false = true → ∃ cs, buildA env cells ((off, sz, x) :: l) = some cs ∧ k cs = true := by
      intro h1 h2 hk
      obtain ⟨e1, e2⟩ := bif'_ok hk
      rw [lsetK_eq] at e2
      split at e2
      · rename_i ho
        obtain ⟨cs, e3, e4⟩ := ht.build l _ k e2
        refine ⟨cs, ?_, e4⟩
        have hs := beq_ok e1
        subst hs
        have ho' : off + 1 ≤ cells.length := ho
        simp only [buildA, hv, h1, h2, List.length_cons, List.length_nil, ho', and_self, if_true, putAt_one _ _ _ ho]
        exact e3
      · cases e2
    rw [asOne_eq] at h'
    split at h'
    · exact one rfl rfl h'
    · exact one rfl rfl h'
    · exact one rfl rfl h'
    · obtain ⟨e1, e2⟩ := bif'_ok h'
      obtain ⟨e3, e4⟩ := bif'_ok e2
      obtain ⟨e5, e6⟩ := bif'_ok e4
      obtain ⟨cs, e7, e8⟩ := ht.build l _ k e6
      refine ⟨cs, ?_, e8⟩
      have e3' := flenEq_ok e3
      have e5' : off + sz ≤ cells.length := ble_ok e5
      simp only [buildA, hv]
      rw [if_pos ⟨e1, e3', e5'⟩]
      exact e7

theorem fcont_ok {O : Mo} {S : Ms} {sz : Nat} {x : AV} {k : List AV → Nat → Bool} (h : fcont O S sz x k = true) : ∃ cs m, conts O S sz x = some (cs, m) ∧ k cs m = true := by
  have gen : @Option.rec (List AV × Nat) (fun _ => (List AV → Nat → Bool) → Bool) (fun _ => false) (fun p k => @Prod.rec (List AV) Nat (fun _ => (List AV → Nat → Bool) → Bool) (fun a b k => k a b) p k) (conts O S sz x) k = true → ∃ cs m, conts O S sz x = some (cs, m) ∧ k cs m = true := by
    intro h
    cases hc : conts O S sz x with
    | none => rw [hc] at h; cases h
    | some p => obtain ⟨cs, m⟩ := p; rw [hc] at h; exact ⟨cs, m, rfl, h⟩
  unfold fcont at h
  rw [asIsl_eq] at h
  split at h
  · obtain ⟨e1, e2⟩ := bif'_ok h
    have e1' : _ = _ * sz := flenEq_ok e1
    exact ⟨_, _, by simp only [conts]; rw [if_pos e1'], e2⟩
  · exact gen h
theorem fappN_ok {O : Mo} {S : Ms} {sz bytes : Nat} {obj : Bool} {new : List AV} {m : Nat} {k : KV} (h : fappN sz bytes obj new m O S k = true) :
    (m * bytes * 2 ≤ 2 ^ 47 ∧ new.all (AV.low (newD S obj + 1)) = true) ∧ k (.bref (newD S obj) (newK O S obj) 0 m new.length) (newO O obj (.buf sz new)) (newS S obj (.buf sz new)) = true := by
  obtain ⟨e1, e2⟩ := bif'_ok h
  obtain ⟨e3, e4⟩ := bif'_ok e2
  have := fnew_ok e4
  rw [flenK_eq] at this
  exact ⟨⟨ble_ok e1, flowAll_eq e3⟩, this⟩
theorem fappG_ok {O : Mo} {S : Ms} {sz bytes : Nat} {obj : Bool} {s : AV} {new : List AV} {m : Nat} {k : KV} (h : fappG sz bytes obj s O S k new m = true) :
    ∃ v O' S', appA O S sz bytes obj new m s = some (v, O', S') ∧ k v O' S' = true := by
  unfold fappG at h
  rw [asBr_eq] at h
  split at h
  · obtain ⟨e1, e2⟩ := fappN_ok h
    exact ⟨_, _, _, by simp only [appA]; rw [if_pos e1], e2⟩
  · obtain ⟨e1, e2⟩ := fappN_ok h
    exact ⟨_, _, _, by simp only [appA]; rw [if_pos e1], e2⟩
  · exact fappB_ok h
  · cases h
theorem frep_eq (zero : List AV) : ∀ (c : Nat) (k : List AV → Bool), frep zero c k = k (repCells zero c)
  | 0, k => rfl
  | c + 1, k => by
    have : frep zero (c + 1) k = frep zero c (fun l => fappK zero l k) := rfl
    rw [this, frep_eq zero c, fappK_eq]; rfl

theorem fop_as (hfc : CallsAs dc fc) (o : AO) : OpAs cfg dc o (fop cfg fc o) := by
  cases o
  case mv x => exact fun n t O S k env h hk => ⟨ev env x, O, S, op_pure rfl rfl, by have := h.ev x (fun v => k v O S); exact this ▸ hk⟩
  case pick c a b =>
    intro n t O S k env h hk
    have hk' : fevK n t c (fun v => asBool v (fun b' => bif' b' (fevK n t a (fun v => k v O S)) (fevK n t b (fun v => k v O S))) false) = true := hk
    rw [h.ev, asBool_eq, h.ev, h.ev] at hk'
    split at hk'
    · rename_i b' hb
      cases b' with
      | true => exact ⟨_, O, S, op_pure rfl (by simp only [aop, hb]; rfl), hk'⟩
      | false => exact ⟨_, O, S, op_pure rfl (by simp only [aop, hb]; rfl), hk'⟩
    · cases hk'
  case ld sz agg a =>
    intro n t O S k env h hk
    have hk' : fevK n t a (fun v => fload O S sz agg v (fun r => k r O S)) = true := hk
    rw [h.ev, fload_eq] at hk'
    obtain ⟨v, e, hv⟩ := optK_ok hk'
    exact ⟨v, O, S, op_pure rfl (by simp only [aop, e]; rfl), hv⟩
  case st sz a x =>
    intro n t O S k env h hk
    have hk' : fevK n t a (fun v => fevK n t x (fun y => fstore O S sz v y (fun O' S' => k .undef O' S'))) = true := hk
    rw [h.ev, h.ev] at hk'
    obtain ⟨O', S', e, hv⟩ := fstore_ok hk'
    exact ⟨.undef, O', S', by simp [opx, AO.isCall, aop, e], hv⟩
  case nilc x ok =>
    intro n t O S k env h hk
    have hk' : fevK n t x (fun v => asRef v (fun _ _ _ => k v O S) (bif' (nilOkA ok v) (k v O S) false)) = true := hk
    rw [h.ev, asRef_eq] at hk'
    split at hk'
    · rename_i d i o hx
      exact ⟨ev env x, O, S, op_pure rfl (by simp [aop, hx, nilOkA]), hk'⟩
    · obtain ⟨e1, e2⟩ := bif'_ok hk'
      exact ⟨_, O, S, op_pure rfl (by simp [aop, e1]), e2⟩
  case bin op x y =>
    intro n t O S k env h hk
    have hk' : fevK n t x (fun v => fevK n t y (fun y => fbin op v y (fun r => k r O S))) = true := hk
    rw [h.ev, h.ev, fbin_eq] at hk'
    obtain ⟨v, e, hv⟩ := optK_ok hk'
    exact ⟨v, O, S, op_pure rfl (by simp only [aop, e]; rfl), hv⟩
  case eqn q neg x =>
    intro n t O S k env h hk
    have hk' : fevK n t x (fun v => optK ((isNilA q v).map fun t => .bool (if neg then !t else t)) (fun r => k r O S)) = true := hk
    rw [h.ev] at hk'
    obtain ⟨v, e, hv⟩ := optK_ok hk'
    exact ⟨v, O, S, op_pure rfl (by simp only [aop, e]; rfl), hv⟩
  case un op x =>
    intro n t O S k env h hk
    have hk' : fevK n t x (fun v => optK (un op v) (fun r => k r O S)) = true := hk
    rw [h.ev] at hk'
    obtain ⟨v, e, hv⟩ := optK_ok hk'
    exact ⟨v, O, S, op_pure rfl (by simp only [aop, e]; rfl), hv⟩
  case cvi q x =>
    intro n t O S k env h hk
    have hk' : fevK n t x (fun v => asInt v (fun _ m => asNat m (fun m => fwr q m (fun r => k r O S)) (k (wr q m) O S)) false) = true := hk
    rw [h.ev, asInt_eq] at hk'
    split at hk'
    · rename_i ka a hx
      refine ⟨wr q a, O, S, op_pure rfl (by simp only [aop, hx]), ?_⟩
      cases a with
      | ofNat m => have := fwr_eq q m (fun r => k r O S); exact this ▸ hk'
      | negSucc m => exact hk'
    · cases hk'
  case fld off x =>
    intro n t O S k env h hk
    have hk' : fevK n t x (fun v => asRef v (fun d i o => fnat (Nat.add o off) (fun o' => k (.ref d i o') O S)) (optK (fldA off v) (fun r => k r O S))) = true := hk
    rw [h.ev, asRef_eq] at hk'
    split at hk'
    · rename_i d i o hx
      rw [fnat_eq] at hk'
      exact ⟨_, O, S, op_pure rfl (by simp only [aop, hx, fldA]; rfl), hk'⟩
    · obtain ⟨v, e, hv⟩ := optK_ok hk'
      exact ⟨v, O, S, op_pure rfl (by simp only [aop, e]; rfl), hv⟩
  case ixa arr sz x i =>
    intro n t O S k env h hk
    have hk' : fevK n t x (fun v => fevK n t i (fun w => nthI w (fun j => @Option.rec Nat (fun _ => Nat → AV → Nat → (AV → Bool) → Bool) ixN ixS arr sz v j (fun r => k r O S)))) = true := hk
    rw [h.ev, h.ev] at hk'
    unfold nthI at hk'
    rw [asInt_eq] at hk'
    split at hk'
    · rename_i kk a hx
      cases a with
      | negSucc a => cases hk'
      | ofNat j =>
        rw [show (Int.ofNat j) = (j : Int) from rfl] at hx
        rw [show (Int.ofNat j) = (j : Int) from rfl, asNat_ofNat] at hk'
        have hn : nth (ev env i) = some j := by rw [hx]; simp [nth]
        cases arr with
        | none =>
          obtain ⟨v, e, hv⟩ := optK_ok (o := ixaSl j sz (ev env x)) hk'
          exact ⟨v, O, S, op_pure rfl (by simp only [aop, hn, e]; rfl), hv⟩
        | some m =>
          have hk2 : bif' (Nat.blt j m) (optK (fldA (Nat.mul j sz) (ev env x)) (fun r => k r O S)) false = true := hk'
          rw [blt_eq] at hk2
          by_cases hj : j < m
          · simp only [hj, decide_true, bif'_true] at hk2
            obtain ⟨v, e, hv⟩ := optK_ok hk2
            have e' : fldA (j * sz) (ev env x) = some v := e
            exact ⟨v, O, S, op_pure rfl (by simp only [aop, hn, hj, if_true, e']; rfl), hv⟩
          · simp only [hj, decide_false, bif'_false] at hk2; cases hk2
    · cases hk'
  case ixs x i =>
    intro n t O S k env h hk
    have hk' : fevK n t x (fun v => fevK n t i (fun w => nthI w (fun j => asStr v (fun s => nthK s j (fun b => fnat b.toNat (fun m => k (.int .u8 (.ofNat m)) O S))) false))) = true := hk
    rw [h.ev, h.ev] at hk'
    unfold nthI at hk'
    rw [asInt_eq] at hk'
    split at hk'
    · rename_i kk a hx
      cases a with
      | negSucc a => cases hk'
      | ofNat j =>
        rw [show (Int.ofNat j) = (j : Int) from rfl] at hx
        rw [show (Int.ofNat j) = (j : Int) from rfl, asNat_ofNat, asStr_eq] at hk'
        have hn : nth (ev env i) = some j := by rw [hx]; simp [nth]
        split at hk'
        · rename_i s hs
          rw [nthK_eq] at hk'
          cases hb : s[j]? with
          | none => rw [hb] at hk'; cases hk'
          | some b =>
            rw [hb] at hk'
            simp only [optB_some, fnat_eq] at hk'
            exact ⟨_, O, S, op_pure rfl (by simp only [aop, hn, hs, hb]; rfl), hk'⟩
        · cases hk'
    · cases hk'
  case ext x i =>
    intro n t O S k env h hk
    have hk' : fevK n t x (fun v => asTup v (fun vs => nthK vs i (fun r => k r O S)) false) = true := hk
    rw [h.ev, asTup_eq] at hk'
    split at hk'
    · rename_i vs hx
      rw [nthK_eq] at hk'
      cases hb : vs[i]? with
      | none => rw [hb] at hk'; cases hk'
      | some b =>
        rw [hb] at hk'
        exact ⟨b, O, S, op_pure rfl (by simp only [aop, hx, hb]; rfl), hk'⟩
    · cases hk'
  case len q x =>
    intro n t O S k env h hk
    have hk' : fevK n t x (fun v => optK ((lenA O S q v).map fun n => .int .i64 (n : Nat)) (fun r => asInt r (fun kk m => asNat m (fun m => fnat m (fun m => k (.int kk (.ofNat m)) O S)) (k r O S)) (k r O S))) = true := hk
    rw [h.ev] at hk'
    obtain ⟨v, e, hv⟩ := optK_ok hk'
    refine ⟨v, O, S, op_pure rfl (by simp only [aop, e]; rfl), ?_⟩
    rw [asInt_eq] at hv
    split at hv
    · rename_i kk m
      cases m with
      | ofNat m => rw [show (Int.ofNat m) = (m : Int) from rfl, asNat_ofNat, fnat_eq] at hv; exact hv
      | negSucc m => exact hv
    · exact hv
  case mki ty x =>
    intro n t O S k env h hk
    have hk' : fevK n t x (fun v => k (.iface ty v) O S) = true := hk
    rw [h.ev] at hk'
    exact ⟨_, O, S, op_pure rfl rfl, hk'⟩
  case mkv name x =>
    intro n t O S k env h hk
    have hk' : fevK n t x (fun v => asIface v (fun ty _ => k (.fm ty name) O S) false) = true := hk
    rw [h.ev, asIface_eq] at hk'
    split at hk'
    · rename_i ty r hx
      exact ⟨_, O, S, op_pure rfl (by simp only [aop, hx]), hk'⟩
    · cases hk'
  case tas holds unw ok zero x =>
    intro n t O S k env h hk
    have hk' : fevK n t x (fun v => optK (tasA holds unw ok zero v) (fun r => k r O S)) = true := hk
    rw [h.ev] at hk'
    obtain ⟨v, e, hv⟩ := optK_ok hk'
    exact ⟨v, O, S, op_pure rfl (by simp only [aop, e]; rfl), hv⟩
  case call f args =>
    intro n t O S k env h hk
    have hk' : fevs n t args (fun vs => fc f vs O S k) = true := hk
    rw [h.evs] at hk'
    obtain ⟨v, O', S', e, hv⟩ := hfc _ _ _ _ _ hk'
    exact ⟨v, O', S', by simp [opx, AO.isCall, callee, e], hv⟩
  case calld x args =>
    intro n t O S k env h hk
    have hk' : fevK n t x (fun v => asFun v (fun f caps => fevs n t args (fun vs => fc f (vs ++ caps) O S k)) false) = true := hk
    rw [h.ev, asFun_eq] at hk'
    split at hk'
    · rename_i f caps hx
      rw [h.evs] at hk'
      obtain ⟨v, O', S', e, hv⟩ := hfc _ _ _ _ _ hk'
      exact ⟨v, O', S', by simp [opx, AO.isCall, callee, hx, e], hv⟩
    · cases hk'
  case invk x m args =>
    intro n t O S k env h hk
    have hk' : fevK n t x (fun v => asIface v (fun ty r => fevs n t args (fun vs => @Option.rec FuncId (fun _ => FC' → List AV → Mo → Ms → KV → Bool) (fun _ _ _ _ _ => false) (fun f fc vs O S k => fc f vs O S k) (cfg.meth ty m) fc (r :: vs) O S k)) false) = true := hk
    rw [h.ev, asIface_eq] at hk'
    split at hk'
    · rename_i ty r hx
      rw [h.evs] at hk'
      cases hm : cfg.meth ty m with
      | none => rw [hm] at hk'; cases hk'
      | some f =>
        rw [hm] at hk'
        obtain ⟨v, O', S', e, hv⟩ := hfc _ _ _ _ _ hk'
        exact ⟨v, O', S', by simp [opx, AO.isCall, callee, hx, hm, e], hv⟩
    · cases hk'
  case alloc z obj =>
    intro n t O S k env h hk
    exact ⟨_, _, _, rfl, fnew_ok hk⟩
  case box sz x obj =>
    intro n t O S k env h hk
    unfold fop at hk
    have hk' : fo_box sz x obj n t O S k = true := hk
    unfold fo_box at hk'
    rw [h.ev] at hk'
    obtain ⟨e1, e2, e3, e4⟩ := box_ok hk'
    exact ⟨_, _, _, by simp only [opx, AO.isCall, aop]; simp only [Bool.false_eq_true, if_false]; rw [if_pos ⟨e1, e2, e3⟩], e4⟩
  case build zero parts =>
    intro n t O S k env h hk
    obtain ⟨cs, e1, e2⟩ := h.build parts zero _ hk
    exact ⟨_, O, S, op_pure rfl (by simp only [aop, e1]; rfl), e2⟩
  case bslice zero sz len parts buf obj =>
    intro n t O S k env h hk
    cases buf with
    | true =>
      have hk' : fbuild n t (parts.map fun (i, x) => (i * sz, sz, x)) (repCells zero len) (fun cs => fbslB sz len obj cs O S k) = true := hk
      obtain ⟨cs, e1, e2⟩ := h.build _ _ _ hk'
      have e3 : fbslB sz len obj cs O S k = true := e2
      obtain ⟨e4, e5⟩ := bif'_ok e3
      have e6 := fnew_ok e5
      rw [flenK_eq] at e6
      exact ⟨_, _, _, by simp only [opx, AO.isCall, aop]; simp only [Bool.false_eq_true, if_false, e1, Option.bind_some, if_true]; rw [if_pos (flowAll_eq e4)], e6⟩
    | false =>
      have hk' : fbuild n t (parts.map fun (i, x) => (i * sz, sz, x)) (repCells zero len) (fun cs => fbslI sz len obj cs O S k) = true := hk
      obtain ⟨cs, e1, e2⟩ := h.build _ _ _ hk'
      have e3 : bif' (Nat.beq len 0) (k .emp O S) (bif' (flowAll 0 cs) (k (.isl cs len) O S) false) = true := e2
      rw [beq_eq] at e3
      by_cases h0 : len = 0
      · simp only [h0, decide_true, bif'_true] at e3
        exact ⟨_, _, _, by simp only [opx, AO.isCall, aop]; simp only [Bool.false_eq_true, if_false, e1, Option.bind_some]; rw [if_pos h0], e3⟩
      · simp only [h0, decide_false, bif'_false] at e3
        obtain ⟨e4, e5⟩ := bif'_ok e3
        exact ⟨_, _, _, by simp only [opx, AO.isCall, aop]; simp only [Bool.false_eq_true, if_false, e1, Option.bind_some]; rw [if_neg h0, if_pos (flowAll_eq e4)], e5⟩
  case app sz bytes s x obj =>
    intro n t O S k env h hk
    have hk' : fo_app sz bytes s x obj n t O S k = true := hk
    unfold fo_app at hk'
    rw [h.ev, h.ev] at hk'
    obtain ⟨cs, m, e1, e2⟩ := fcont_ok hk'
    obtain ⟨v, O', S', e3, e4⟩ := fappG_ok e2
    exact ⟨v, O', S', by simp only [opx, AO.isCall, aop]; simp only [Bool.false_eq_true, if_false, e1, e3], e4⟩
  case slc arr sz x lo hi =>
    intro n t O S k env h hk
    cases arr with
    | none =>
      have hk' : fslcN sz x lo hi n t O S k = true := hk
      unfold fslcN at hk'
      rw [h.ev, asSl_eq] at hk'
      have key : ∀ r, slcA env lo hi sz (ev env x) = some r → k r O S = true → ∃ v O' S', opx cfg dc { env, O, S } (.slc none sz x lo hi) = some (v, O', S') ∧ k v O' S' = true := fun r e hr =>
        ⟨r, O, S, op_pure rfl (by simp only [aop, e]; rfl), hr⟩
      split at hk'
      · rename_i hx
        obtain ⟨l, r, e1, e2⟩ := h.bnds hk'
        exact key _ (by rw [hx]; simp only [slcA, e1]) e2
      · rename_i cs len hx
        obtain ⟨l, r, e1, e2⟩ := h.bnds hk'
        rw [fnat_eq] at e2
        exact key _ (by rw [hx]; simp only [slcA, e1]; rfl) e2
      · rename_i d i off len cap hx
        obtain ⟨l, r, e1, e2⟩ := h.bnds hk'
        rw [fnat_eq, fnat_eq, fnat_eq] at e2
        exact key _ (by rw [hx]; simp only [slcA, e1]; rfl) e2
      · rename_i d i off len tot hx
        obtain ⟨l, r, e1, e2⟩ := h.bnds hk'
        rw [fnat_eq, fnat_eq] at e2
        exact key _ (by rw [hx]; simp only [slcA, e1]; rfl) e2
      · cases hk'
    | some m =>
      have hk' : fslcA m sz x lo hi n t O S k = true := hk
      unfold fslcA at hk'
      rw [h.ev, asRef_eq] at hk'
      split at hk'
      · rename_i d i off hx
        obtain ⟨l, r, e1, e2⟩ := h.bnds hk'
        rw [fnat_eq, fnat_eq, fnat_eq] at e2
        exact ⟨_, O, S, op_pure rfl (by simp only [aop, hx, e1]; rfl), e2⟩
      · cases hk'
  case cvs x =>
    intro n t O S k env h hk
    have hk' : fo_cvs x n t O S k = true := hk
    unfold fo_cvs at hk'
    rw [h.ev] at hk'
    obtain ⟨v, e, hv⟩ := optK_ok hk'
    refine ⟨v, O, S, op_pure rfl ?_, hv⟩
    simp only [aop, cvsX] at e ⊢
    cases hc : conts O S 1 (ev env x) with
    | none => rw [hc] at e; cases e
    | some p =>
      rw [hc] at e
      simp only at e ⊢
      cases hx : ev env x <;> rw [hx] at e <;> simp only at e ⊢ <;> first | (cases e; done) | rw [e]; rfl
  case cvn x =>
    intro n t O S k env h hk
    have hk' : fo_cvn x n t O S k = true := hk
    unfold fo_cvn at hk'
    rw [h.ev, asStr_eq] at hk'
    split at hk'
    · rename_i s hx
      exact ⟨_, O, S, op_pure rfl (by simp only [aop, hx]), hk'⟩
    · cases hk'
  case eqb neg x y =>
    intro n t O S k env h hk
    have hk' : fo_eqb neg x y n t O S k = true := hk
    unfold fo_eqb at hk'
    rw [h.ev, h.ev, asBool_eq] at hk'
    split at hk'
    · rename_i a ha
      rw [asBool_eq] at hk'
      split at hk'
      · rename_i b hb
        rw [fbool_eq] at hk'
        exact ⟨_, O, S, op_pure rfl (by simp only [aop, ha, hb]), hk'⟩
      · cases hk'
    · cases hk'
  case eqs neg ks x y =>
    intro n t O S k env h hk
    have hk' : fo_eqs neg ks x y n t O S k = true := hk
    unfold fo_eqs at hk'
    rw [h.ev, h.ev, asAgg_eq] at hk'
    split at hk'
    · rename_i a ha
      rw [asAgg_eq] at hk'
      split at hk'
      · rename_i b hb
        obtain ⟨v, e, hv⟩ := optK_ok hk'
        exact ⟨v, O, S, op_pure rfl (by simp only [aop, ha, hb, e]; rfl), hv⟩
      · cases hk'
    · cases hk'
  case ixv m sz agg x i =>
    intro n t O S k env h hk
    have hk' : fo_ixv m sz agg x i n t O S k = true := hk
    unfold fo_ixv at hk'
    rw [h.ev, h.ev, nthI_eq] at hk'
    cases hn : nth (ev env i) with
    | none => rw [hn] at hk'; cases hk'
    | some j =>
      rw [hn] at hk'
      simp only [optB_some, asAgg_eq] at hk'
      split at hk'
      · rename_i cs hx
        obtain ⟨e1, e2⟩ := bif'_ok hk'
        rw [blt_eq] at e1
        obtain ⟨v, e, hv⟩ := optK_ok e2
        have e1' : j < m := by simpa using e1
        exact ⟨v, O, S, op_pure rfl (by simp only [aop, hx, hn, e1', if_true, e]; rfl), hv⟩
      · cases hk'
  case fdv off sz agg x =>
    intro n t O S k env h hk
    have hk' : fo_fdv off sz agg x n t O S k = true := hk
    unfold fo_fdv at hk'
    rw [h.ev, asAgg_eq] at hk'
    split at hk'
    · rename_i cs hx
      obtain ⟨v, e, hv⟩ := optK_ok hk'
      exact ⟨v, O, S, op_pure rfl (by simp only [aop, hx, e]; rfl), hv⟩
    · cases hk'
  case sls x lo hi =>
    intro n t O S k env h hk
    have hk' : fo_sls x lo hi n t O S k = true := hk
    unfold fo_sls at hk'
    rw [h.ev, asStr_eq] at hk'
    split at hk'
    · rename_i s hx
      rw [flenK_eq] at hk'
      obtain ⟨l, r, e1, e2⟩ := h.bnds hk'
      exact ⟨_, O, S, op_pure rfl (by simp only [aop, hx, e1]), e2⟩
    · cases hk'
  case mks zero sz bytes l c obj =>
    intro n t O S k env h hk
    have hk' : fo_mks zero sz bytes l c obj n t O S k = true := hk
    unfold fo_mks at hk'
    rw [h.ev, h.ev, nthI_eq] at hk'
    cases hn : nth (ev env l) with
    | none => rw [hn] at hk'; cases hk'
    | some a =>
      rw [hn] at hk'
      simp only [optB_some, nthI_eq] at hk'
      cases hm : nth (ev env c) with
      | none => rw [hm] at hk'; cases hk'
      | some b =>
        rw [hm] at hk'
        simp only [optB_some] at hk'
        obtain ⟨e1, e2⟩ := bif'_ok hk'
        obtain ⟨e3, e4⟩ := bif'_ok e2
        obtain ⟨e5, e6⟩ := bif'_ok e4
        rw [frep_eq] at e6
        have e7 := fnew_ok e6
        rw [fnat_eq] at e7
        rw [blt_eq] at e5
        have e5' : b < 2 ^ 62 := by simpa using e5
        have e3' : b * bytes ≤ 2 ^ 47 := ble_ok e3
        exact ⟨_, _, _, by simp only [opx, AO.isCall, aop]; simp only [Bool.false_eq_true, if_false, hn, hm]; rw [if_pos ⟨beq_ok e1, e3', e5'⟩]; rfl, e7⟩
  all_goals exact fgen_as rfl

/-- A run's two readings. -/
theorem fput_as {dst : Option Nat} {n : Nat} {t : T} {v : AV} {k : T → Bool} {env : List AV} {O S} (h : RT n t env) (hk : fput dst n t v k = true) : ∃ t' env', put { env, O, S } dst v = { env := env', O, S } ∧ RT n t' env' ∧ k t' = true := by
  cases dst with
  | none => exact ⟨t, env, rfl, h, hk⟩
  | some s =>
    obtain ⟨t', h', hk'⟩ := h.setK hk
    exact ⟨t', _, rfl, h', hk'⟩

theorem fchk_as {n : Nat} {t : T} {O : Mo} {S : Ms} {l : List (Nat × AO)} {r : Bool} {env : List AV} (h : RT n t env) (hk : fchk n t O S l r = true) : chks { env, O, S } l = true ∧ r = true := by
  cases l with
  | nil => exact ⟨rfl, hk⟩
  | cons p l =>
    have hk' : bif' (chks { env := toL n t, O, S } (p :: l)) r false = true := hk
    rw [h.toL] at hk'
    cases hc : chks { env, O, S } (p :: l) with
    | true => rw [hc] at hk'; exact ⟨rfl, hk'⟩
    | false => rw [hc] at hk'; cases hk'

theorem fops_as (hfc : CallsAs dc fc) : ∀ (l : List AOp) n t O S k env, RT n t env → fops cfg fc l n t O S k = true → ∃ env' t' O' S', execOps cfg dc l { env, O, S } = some { env := env', O := O', S := S' } ∧ RT n t' env' ∧ k t' O' S' = true
  | [], n, t, O, S, k, env, h, hk => ⟨env, t, O, S, rfl, h, hk⟩
  | ⟨dst, g, o, chk⟩ :: l, n, t, O, S, k, env, h, hk => by
    have run : ∀ {k}, fopsR cfg fc dst o chk (fops cfg fc l) n t O S k = true → ∃ env' t' O' S', (match opx cfg dc { env, O, S } o with
        | none => none
        | some (v, O', S') => if chks { env, O := O', S := S' } chk then execOps cfg dc l (put { env, O := O', S := S' } dst v) else none) = some { env := env', O := O', S := S' } ∧ RT n t' env' ∧ k t' O' S' = true := by
      intro k hk
      unfold fopsR at hk
      obtain ⟨v, O', S', e, hk1⟩ := fop_as hfc o n t O S _ env h hk
      obtain ⟨hc, hk2⟩ := fchk_as h hk1
      obtain ⟨t', env', e2, h', hk3⟩ := fput_as (O := O') (S := S') h hk2
      obtain ⟨env2, t2, O2, S2, e3, h2, hk4⟩ := fops_as hfc l n t' O' S' k env' h' hk3
      exact ⟨env2, t2, O2, S2, by simp only [e, hc, if_true, e2, e3], h2, hk4⟩
    cases g with
    | none =>
      obtain ⟨env', t', O', S', e, h', hk'⟩ := run hk
      refine ⟨env', t', O', S', ?_, h', hk'⟩
      simp only [execOps, wanted]
      exact e
    | some p =>
      obtain ⟨s, want⟩ := p
      have hk' : T.getK (path n s) t (fun v => asBool v (fun b => bif' (xnorB b want) (fopsR cfg fc dst o chk (fops cfg fc l) n t O S k) (fopsS dst (fops cfg fc l) n t O S k))
        (asTup v (fun vs => @List.rec AV (fun _ => Bool → Bool) (fun x => x) (fun _ _ _ _ => false) vs (fopsS dst (fops cfg fc l) n t O S k)) false)) = true := hk
      rw [h.getK] at hk'
      have hT : wanted env (some (s, want)) = some true → fopsR cfg fc dst o chk (fops cfg fc l) n t O S k = true → ∃ env' t' O' S', execOps cfg dc (⟨dst, some (s, want), o, chk⟩ :: l) { env, O, S } = some { env := env', O := O', S := S' } ∧ RT n t' env' ∧ k t' O' S' = true := by
        intro hw hk'
        obtain ⟨env', t', O', S', e, h', hk2⟩ := run hk'
        refine ⟨env', t', O', S', ?_, h', hk2⟩
        simp only [execOps, hw]
        exact e
      have hF : wanted env (some (s, want)) = some false → fopsS dst (fops cfg fc l) n t O S k = true → ∃ env' t' O' S', execOps cfg dc (⟨dst, some (s, want), o, chk⟩ :: l) { env, O, S } = some { env := env', O := O', S := S' } ∧ RT n t' env' ∧ k t' O' S' = true := by
        intro hw hk'
        obtain ⟨t', env', e2, h', hk3⟩ := fput_as (O := O) (S := S) h (show fput dst n t (.tup []) (fun t' => fops cfg fc l n t' O S k) = true from hk')
        obtain ⟨env2, t2, O2, S2, e3, h2, hk4⟩ := fops_as hfc l n t' O S k env' h' hk3
        refine ⟨env2, t2, O2, S2, ?_, h2, hk4⟩
        simp only [execOps, hw, e2, e3]
      rw [asBool_eq] at hk'
      split at hk'
      · rename_i b hb
        cases b <;> cases want
        · exact hT (by simp only [wanted, hb]; rfl) hk'
        · exact hF (by simp only [wanted, hb]; rfl) hk'
        · exact hF (by simp only [wanted, hb]; rfl) hk'
        · exact hT (by simp only [wanted, hb]; rfl) hk'
      · rw [asTup_eq] at hk'
        split at hk'
        · rename_i vs hv
          cases vs with
          | nil => exact hF (by simp only [wanted, hv]) hk'
          | cons v vs => cases hk'
        · cases hk'

/-- A piece of code's two readings. -/
def RunAs (ex : St → Option (Ex × St)) (F : FX) : Prop := ∀ n t O S k env, RT n t env → F n t O S k = true → ∃ e env' t' O' S', ex { env, O, S } = some (e, { env := env', O := O', S := S' }) ∧ RT n t' env' ∧ k e t' O' S' = true

theorem fromL_as {n : Nat} : ∀ (l : List AV) (i : Nat) (t : T) (k : T → Bool) (env : List AV), RT n t env → fromL l n i t k = true → ∃ t', RT n t' (env.take i ++ l ++ env.drop (i + l.length)) ∧ k t' = true
  | [], i, t, k, env, h, hk => ⟨t, by simpa using h, hk⟩
  | v :: l, i, t, k, env, h, hk => by
    have hk' : T.setK (path n i) v t (fun t' => fromL l n (i + 1) t' k) = true := hk
    have hin : i < n := by
      refine Decidable.byContradiction fun hn => ?_
      rw [path_ge hn] at hk'
      have : ∀ k, T.setK .bad v t k = false := fun k => by cases t <;> rfl
      rw [this] at hk'; cases hk'
    obtain ⟨t', h', hk2⟩ := h.setK hk'
    obtain ⟨t2, h2, hk3⟩ := fromL_as l (i + 1) t' k _ h' hk2
    refine ⟨t2, ?_, hk3⟩
    have hlen := h.len
    have e : (env.set i v).take (i + 1) ++ l ++ (env.set i v).drop (i + 1 + l.length) = env.take i ++ (v :: l) ++ env.drop (i + (v :: l).length) := by
      have hi : i < env.length := by omega
      have e1 : (env.set i v).take (i + 1) = env.take i ++ [v] := by
        rw [List.take_add_one, List.take_set_of_le (Nat.le_refl i)]; simp [hi]
      rw [e1, List.drop_set_of_lt (by omega)]
      simp [Nat.add_assoc, Nat.add_comm 1]
    rw [← e]; exact h2

theorem keep_length (live : List Nat) (env : List AV) : (keep live env).length = env.length := by
  cases live <;> simp [keep]

theorem fkeep_as {live : List Nat} {n : Nat} {t : T} {k : T → Bool} {env : List AV} (h : RT n t env) (hk : fkeep live n t k = true) : ∃ t', RT n t' (keep live env) ∧ k t' = true := by
  cases live with
  | nil => exact ⟨t, h, hk⟩
  | cons i l =>
    have hk' : fromL (keep (i :: l) (toL n t)) n 0 (baseT (dep n)) k = true := hk
    rw [h.toL] at hk'
    obtain ⟨t', h', hk2⟩ := fromL_as _ _ _ _ _ (RT.base n) hk'
    refine ⟨t', ?_, hk2⟩
    have e : (List.replicate n AV.undef).drop (0 + (keep (i :: l) env).length) = [] := by
      rw [keep_length, h.len]; simp
    rw [e] at h'
    simpa using h'

theorem fxSeqK_as {exb : St → Option (Ex × St)} {ihb : FX} (hb : RunAs exb ihb) {n : Nat} {k : Ex → T → Mo → Ms → Bool} {e : Ex} {t : T} {O : Mo} {S : Ms} {env : List AV} (h : RT n t env) (hk : fxSeqK n ihb k e t O S = true) :
    ∃ e' env' t' O' S', (match some (e, ({ env, O, S } : St)) with | some (.normal, st') => exb st' | r => r) = some (e', { env := env', O := O', S := S' }) ∧ RT n t' env' ∧ k e' t' O' S' = true := by
  cases e with
  | normal => exact hb n t O S k env h hk
  | exit i => exact ⟨.exit i, env, t, O, S, rfl, h, hk⟩
  | ret => exact ⟨.ret, env, t, O, S, rfl, h, hk⟩

theorem fxLoop_as {body : St → Option (Ex × St)} {iha : FX} (ha : RunAs body iha) (live : List Nat) : ∀ N, RunAs (loopN body live N) (fxLoop N live iha) := by
  intro N
  induction N with
  | zero => intro n t O S k env h hk; cases hk
  | succ N ih =>
    intro n t O S k env h hk
    have hk' : fkeep live n t (fun t' => iha n t' O S (fxSeqK n (fxLoop N live iha) k)) = true := hk
    obtain ⟨t1, h1, hk1⟩ := fkeep_as h hk'
    obtain ⟨e, env2, t2, O2, S2, e2, h2, hk2⟩ := ha n t1 O S _ _ h1 hk1
    obtain ⟨e3, env3, t3, O3, S3, e4, h3, hk3⟩ := fxSeqK_as ih h2 hk2
    refine ⟨e3, env3, t3, O3, S3, ?_, h3, hk3⟩
    simp only [loopN, e2]
    exact e4

theorem fexec_as (hfc : CallsAs dc fc) (N : Nat) : ∀ c, RunAs (exec cfg dc N c) (fexec cfg fc N c) := by
  intro c
  induction c with
  | ops id l =>
    intro n t O S k env h hk
    obtain ⟨env', t', O', S', e, h', hk'⟩ := fops_as hfc l n t O S (k .normal) env h hk
    exact ⟨.normal, env', t', O', S', by simp [exec, e], h', hk'⟩
  | seq a b iha ihb =>
    intro n t O S k env h hk
    obtain ⟨e, env2, t2, O2, S2, e2, h2, hk2⟩ := iha n t O S (fxSeqK n (fexec cfg fc N b) k) env h hk
    obtain ⟨e3, env3, t3, O3, S3, e4, h3, hk3⟩ := fxSeqK_as ihb h2 hk2
    refine ⟨e3, env3, t3, O3, S3, ?_, h3, hk3⟩
    simp only [exec, e2]
    exact e4
  | cond c a b iha ihb =>
    intro n t O S k env h hk
    have hk' : fevK n t c (fun v => asBool v (fun b' => bif' b' (fexec cfg fc N a n t O S k) (fexec cfg fc N b n t O S k)) false) = true := hk
    rw [h.ev, asBool_eq] at hk'
    split at hk'
    · rename_i b' hb
      cases b' with
      | true =>
        obtain ⟨e, env2, t2, O2, S2, e2, r⟩ := iha n t O S k env h hk'
        exact ⟨e, env2, t2, O2, S2, by simp only [exec, hb, if_true, e2], r⟩
      | false =>
        obtain ⟨e, env2, t2, O2, S2, e2, r⟩ := ihb n t O S k env h hk'
        exact ⟨e, env2, t2, O2, S2, by simp only [exec, hb, Bool.false_eq_true, if_false, e2], r⟩
    · cases hk'
  | block id a iha =>
    intro n t O S k env h hk
    obtain ⟨e, env2, t2, O2, S2, e2, h2, hk2⟩ := iha n t O S (fxBlockK id k) env h hk
    cases e with
    | normal => exact ⟨.normal, env2, t2, O2, S2, by simp only [exec, e2], h2, hk2⟩
    | ret => exact ⟨.ret, env2, t2, O2, S2, by simp only [exec, e2], h2, hk2⟩
    | exit i =>
      have hk3 : bif' (Nat.beq i id) (k .normal t2 O2 S2) (k (.exit i) t2 O2 S2) = true := hk2
      rw [beq_eq] at hk3
      by_cases hi : i = id
      · simp only [hi, decide_true, bif'_true] at hk3
        exact ⟨.normal, env2, t2, O2, S2, by simp only [exec, e2, hi, if_true], h2, hk3⟩
      · simp only [hi, decide_false, bif'_false] at hk3
        exact ⟨.exit i, env2, t2, O2, S2, by simp only [exec, e2, hi, if_false], h2, hk3⟩
  | loop live a iha => exact fxLoop_as iha live N
  | exit id => exact fun n t O S k env h hk => ⟨.exit id, env, t, O, S, rfl, h, hk⟩
  | ret => exact fun n t O S k env h hk => ⟨.ret, env, t, O, S, rfl, h, hk⟩
  | skip => exact fun n t O S k env h hk => ⟨.normal, env, t, O, S, rfl, h, hk⟩

theorem fdrop_eq : ∀ (S : Ms) (k : Ms → Bool), fdrop S k = k S.dropLast
  | [], k => rfl
  | [_], k => rfl
  | a :: b :: S, k => by
    have : fdrop (a :: b :: S) k = fdrop (b :: S) (fun l' => k (a :: l')) := rfl
    rw [this, fdrop_eq]; rfl
theorem fpush_eq : ∀ (S : Ms) (k : Ms → Bool), fpush S k = k (S ++ [[]])
  | [], k => rfl
  | a :: S, k => by
    have : fpush (a :: S) k = fpush S (fun l' => k (a :: l')) := rfl
    rw [this, fpush_eq]; rfl
theorem fsnapR_ok {S : Ms} {d : Nat} {v : AV} {k : AV → Bool} (h : fsnapR S d v k = true) : d < S.length ∧ k v = true := by
  unfold fsnapR at h
  rw [flenK_eq] at h
  obtain ⟨e1, e2⟩ := bif'_ok h
  rw [blt_eq] at e1
  exact ⟨by simpa using e1, e2⟩
theorem snapL_fplain (S : Ms) : ∀ (l : List AV), fplain l = true → snapL S l = some l
  | [], _ => rfl
  | v :: l, h => by
    have h' : asOne v (fun _ _ => fplain l) (fun _ => fplain l) (fun _ => fplain l) false = true := h
    rw [asOne_eq] at h'
    split at h'
    · simp only [snapL, snapL_fplain S l h', snap1, AV.low, if_true]
    · simp only [snapL, snapL_fplain S l h', snap1, AV.low, if_true]
    · simp only [snapL, snapL_fplain S l h', snap1, AV.low, if_true]
    · cases h'
theorem fsnap2_ok {S : Ms} {v : AV} {k : AV → Bool} (h : fsnap2 S v k = true) : ∃ v', snap2 S v = some v' ∧ k v' = true := by
  cases v with
  | int q m => exact ⟨_, rfl, h⟩
  | bool b => exact ⟨_, rfl, h⟩
  | str s => exact ⟨_, rfl, h⟩
  | ref d i o =>
    obtain ⟨e1, e2⟩ := fsnapR_ok (v := .ref d i o) (k := k) (S := S) (d := d) h
    exact ⟨_, by simp [snap2, snap1, AV.low, e1], e2⟩
  | iface t u =>
    cases u with
    | ref d i o =>
      obtain ⟨e1, e2⟩ := fsnapR_ok (v := .iface t (.ref d i o)) (k := k) (S := S) (d := d) h
      exact ⟨_, by simp [snap2, snap1, AV.low, e1], e2⟩
    | _ => exact optK_ok h
  | agg cs =>
    have h' : bif' (fplain cs) (k (.agg cs)) (optK (snap2 S (.agg cs)) k) = true := h
    cases hp : fplain cs with
    | true =>
      rw [hp] at h'
      exact ⟨_, by simp [snap2, snapL_fplain S cs hp], h'⟩
    | false =>
      rw [hp] at h'
      exact optK_ok h'
  | _ => exact optK_ok h
theorem fsnapT_ok {S : Ms} : ∀ (l : List AV) (k : List AV → Bool), fsnapT S l k = true → ∃ vs, snapT S l = some vs ∧ k vs = true
  | [], k, h => ⟨[], rfl, h⟩
  | v :: l, k, h => by
    obtain ⟨v', e1, e2⟩ := fsnap2_ok (S := S) (v := v) (k := fun v' => fsnapT S l (fun vs => k (v' :: vs))) h
    obtain ⟨vs, e3, e4⟩ := fsnapT_ok l _ e2
    exact ⟨v' :: vs, by simp [snapT, e1, e3], e4⟩
theorem fsnap_ok {S : Ms} {v : AV} {k : AV → Bool} (h : fsnap S v k = true) : ∃ v', snap S v = some v' ∧ k v' = true := by
  unfold fsnap at h
  rw [asTup_eq] at h
  split at h
  · rename_i vs
    obtain ⟨vs', e1, e2⟩ := fsnapT_ok (S := S) vs (fun vs' => k (.tup vs')) h
    exact ⟨.tup vs', by simp [snap, e1], e2⟩
  · rename_i hne
    obtain ⟨v', e1, e2⟩ := fsnap2_ok h
    refine ⟨v', ?_, e2⟩
    unfold snap
    split
    · exact absurd rfl (hne _)
    · exact e1

theorem ffinV_ok {own : Bool} {O : Mo} {S : Ms} {v : AV} {k : KV} (h : ffinV own O S v k = true) :
    ∃ v' O' S', (if own then (moveV S v).map fun (v, Sb) => (v, O, Sb) else (snap S v).map fun v => (v, O, S.dropLast)) = some (v', O', S') ∧ k v' O' S' = true := by
  cases own with
  | true =>
    have h' : ansV ((moveV S v).map fun (v, Sb) => (v, O, Sb)) k = true := h
    obtain ⟨v', O', S', e, hk⟩ := ansV_ok h'
    exact ⟨v', O', S', by simpa using e, hk⟩
  | false =>
    obtain ⟨v', e, hk⟩ := fsnap_ok (k := fun v' => fdrop S (fun S' => k v' O S')) h
    rw [fdrop_eq] at hk
    exact ⟨v', O, S.dropLast, by simp [e], hk⟩

theorem fres_ok {n : Nat} {t : T} {O : Mo} {S : Ms} {env : List AV} (ht : RT n t env) : ∀ (l : List RV) (k : List AV → Bool), fres l n t O S k = true → ∃ vs, resL { env, O, S } l = some vs ∧ k vs = true
  | [], k, h => ⟨[], rfl, h⟩
  | .tmp s :: l, k, h => by
    have h' : T.getK (path n s) t (fun v => fres l n t O S (fun vs => k (v :: vs))) = true := h
    rw [ht.getK] at h'
    obtain ⟨vs, e1, e2⟩ := fres_ok ht l _ h'
    exact ⟨_, by simp only [resL, resV, e1], e2⟩
  | .cell a sz g :: l, k, h => by
    have h' : T.getK (path n a) t (fun p => fload O S sz g p (fun v => fres l n t O S (fun vs => k (v :: vs)))) = true := h
    rw [ht.getK, fload_eq] at h'
    obtain ⟨v, e0, h2⟩ := optK_ok h'
    obtain ⟨vs, e1, e2⟩ := fres_ok ht l _ h2
    exact ⟨_, by simp only [resL, resV, e0, e1], e2⟩
theorem fone_eq : ∀ (l : List AV) (k : AV → Bool), fone l k = k (oneOf l)
  | [], _ => rfl
  | [_], _ => rfl
  | _ :: _ :: _, _ => rfl
theorem ffinR_ok {F : AFn} {own : Bool} {t : T} {O : Mo} {S : Ms} {k : KV} {env : List AV} (ht : RT F.ntmps t env) (h : ffinR F own t O S k = true) :
    ∃ v' O' S', fin own F (some (.ret, { env, O, S })) = some (v', O', S') ∧ k v' O' S' = true := by
  unfold ffinR at h
  obtain ⟨vs, e1, e2⟩ := fres_ok ht _ _ h
  rw [fone_eq] at e2
  obtain ⟨v', O', S', e, hk⟩ := ffinV_ok e2
  refine ⟨v', O', S', ?_, hk⟩
  simp only [fin, e1]
  exact e

theorem ffin_ok {F : AFn} {own : Bool} {k : KV} {e : Ex} {t : T} {O : Mo} {S : Ms} {env : List AV} (ht : RT F.ntmps t env) (h : ffin F own k e t O S = true) :
    ∃ v' O' S', fin own F (some (e, { env, O, S })) = some (v', O', S') ∧ k v' O' S' = true := by
  cases e with
  | exit i => cases h
  | ret => exact ffinR_ok ht h
  | normal => exact ffinR_ok ht h

theorem fbody_ok (hfc : CallsAs dc fc) {N : Nat} {own : Bool} {F : AFn} {args : List AV} {O : Mo} {S : Ms} {k : KV} (h : fbody cfg fc N own F args O S k = true) :
    ∃ v' O' S', fin own F (exec cfg dc N F.body (enter F args O S)) = some (v', O', S') ∧ k v' O' S' = true := by
  unfold fbody at h
  rw [fpush_eq] at h
  obtain ⟨t, ht, hk⟩ := fromL_as _ _ _ _ _ (RT.base F.ntmps) h
  have e : (List.replicate F.ntmps AV.undef).take 0 ++ args ++ (List.replicate F.ntmps AV.undef).drop (0 + args.length) = args ++ List.replicate (F.ntmps - args.length) .undef := by simp
  rw [e] at ht
  obtain ⟨e, env2, t2, O2, S2, e2, h2, hk2⟩ := fexec_as hfc N F.body F.ntmps t O _ _ _ ht hk
  obtain ⟨v', O', S', e3, hk3⟩ := ffin_ok h2 hk2
  refine ⟨v', O', S', ?_, hk3⟩
  unfold enter
  rw [e2]; exact e3
end

/-- What the quick reading says, den says. -/
theorem fden_as (cfg : Cfg) {fp : FPr} (hfp : FpOk cfg fp) : ∀ n, CallsAs (den cfg n) (fden cfg fp n) := by
  intro n
  induction n with
  | zero => intro f args O S k h; cases h
  | succ n ih =>
    intro f args O S k h
    have h0 : @Option.rec (List AV → Mo → Ms → KV → Bool) (fun _ => Cfg → Nat → (Cfg → FPr → FC') → FPr → FC') fdenB (fun g _ _ _ _ _ args O S k => g args O S k) (fp f) cfg n (fun cfg fp => fden cfg fp n) fp f args O S k = true := h
    cases hq : fp f with
    | some g =>
      rw [hq] at h0
      obtain ⟨p, hp, hg⟩ := hfp f g hq
      obtain ⟨v, O', S', e, hk⟩ := hg args O S k h0
      exact ⟨v, O', S', by simp only [den, hp, e], hk⟩
    | none =>
      rw [hq] at h0
      have h' : @Option.rec (List AV → Mo → Ms → Ans) (fun _ => Cfg → Nat → FC' → FC') (fun cfg n ih f args O S k => fcode (cfg.code f) cfg ih n (cfg.own f) args O S k) (fun g _ _ _ _ args O S k => ansV (g args O S) k) (cfg.prim f) cfg n (fden cfg fp n) f args O S k = true := h0
      cases hp : cfg.prim f with
      | some g =>
        rw [hp] at h'
        obtain ⟨v, O', S', e, hk⟩ := ansV_ok (o := g args O S) h'
        exact ⟨v, O', S', by simp only [den, hp, e], hk⟩
      | none =>
        rw [hp] at h'
        cases hF : cfg.code f with
        | none =>
          have h2 : fcode (cfg.code f) cfg (fden cfg fp n) n (cfg.own f) args O S k = true := h'
          rw [hF] at h2; cases h2
        | some F =>
          have h2 : fcode (cfg.code f) cfg (fden cfg fp n) n (cfg.own f) args O S k = true := h'
          rw [hF] at h2
          obtain ⟨v, O', S', e, hk⟩ := fbody_ok ih (show fbody cfg (fden cfg fp n) n (cfg.own f) F args O S k = true from h2)
          exact ⟨v, O', S', by simp only [den, hp, hF, e], hk⟩

/-- What the quick reading says of a call, the machine does. -/
theorem fden_ok {P : Program} {cfg : Cfg} (hcfg : CfgOk P cfg) {fp : FPr} (hfp : FpOk cfg fp) {n : Nat} {f : FuncId} {args : List AV} {O : Mo} {S : Ms} {k : KV} (h : fden cfg fp n f args O S k = true) : ∃ r O' S', CallOk P f args O S r O' S' ∧ k r O' S' = true := by
  obtain ⟨r, O', S', e, hk⟩ := fden_as cfg hfp n f args O S k h
  exact ⟨r, O', S', sound hcfg e, hk⟩
end Den
