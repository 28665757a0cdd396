/- BagNobody: whatever is done to nobody's bag is refused. No condition.
   The law ranges over a function: its walk is the machine's but for that statement. -/
import Derived.Test.YthnghbelgjdinaaGreatClone
import Derived.Test.YthnghbelgjdinaaGreatPt
import Derived.Test.YthnghbelgjdinaaGreatZ
import Derived.Test.YthnghbelgjdinaaGreatRows
import Derived.RangeFuncLeaves
import Derived.RangeFuncRecord
import Derived.ProofKit
import Derived.OpenShut
import Derived.JoinedOf
set_option linter.unusedVariables false
namespace Go.Proofs.YthnghbelgjdinaaGreat.Nobody
open Go Go.RowKit Go.Proofs.YthnghbelgjdinaaGreat Go.Proofs.YthnghbelgjdinaaGreat.M

/-! ### Plain facts on states -/
section
variable {u : Uni} {fx : Fix} {nt : Nat} {V V' : Nat → Value} {w w' : World} {Im Im' : Nat → Prop} {ob ob' : Nat → Ob u} {σ : St u} {a : Act}
/-- From here on. -/
def hence (V : Nat → Value) (w : World) (Im : Nat → Prop) (ob : Nat → Ob u) (df : List Deferred) : Fix := ⟨fun q => ∃ k, plc (ob k) (V k) = some q, w, Im, 0, V, df⟩
theorem Inv.hence (h : Inv u fx V w Im ob) (df : List Deferred) : Inv u (hence V w Im ob df) V w Im ob :=
  ⟨h.hr, rfl, rfl, rfl, Nat.le_refl _, fun _ _ _ => rfl, fun _ _ _ _ _ => ⟨rfl, rfl⟩, fun _ h => h, fun _ h => .inl h, fun k p h => .inl ⟨k, h⟩, fun k hk => absurd hk (Nat.not_lt_zero _)⟩
/-- And over all, from where it began. -/
theorem Fr.over (h : Inv u fx V w Im ob) (hm : fx.m = 0) {df : List Deferred} (g : Fr (Nobody.hence V w Im ob df) V' w' Im' ob') : Fr fx V' w' Im' ob' := by
  have f := h.fr
  have ho : ∀ p, (Nobody.hence V w Im ob df).O p → fx.O p ∨ fx.w.heap.size ≤ p.1 := fun p ⟨k, hk⟩ => f.ownIn k p hk
  refine ⟨g.os.trans f.os, g.tape.trans f.tape, g.output.trans f.output, Nat.le_trans f.size g.size, fun b hb hO => ?_, fun b o hb h1 h2 => ?_, fun b hb => g.imUp b (f.imUp b hb), fun b hb => ?_, fun k p hp => ?_, fun k hk => absurd hk (by omega)⟩
  · refine (g.block b (Nat.lt_of_lt_of_le hb f.size) fun o hO' => ?_).trans (f.block b hb hO)
    rcases ho _ hO' with h' | h'
    · exact hO o h'
    · exact absurd h' (by simp only; omega)
  · obtain ⟨c1, c2⟩ := f.cell b o hb h1 h2
    obtain ⟨d1, d2⟩ := g.cell b o (Nat.lt_of_lt_of_le hb f.size) (fun hO' => by
      rcases ho _ hO' with h' | h'
      · exact h1 h'
      · exact absurd h' (by simp only; omega)) (fun hO' => by
      rcases ho _ hO' with h' | h'
      · exact h2 h'
      · exact absurd h' (by simp only; omega))
    exact ⟨d1.trans c1, d2.trans c2⟩
  · rcases g.imIn b hb with h' | h' | h'
    · exact f.imIn b h'
    · rcases ho _ h' with h' | h'
      · exact .inr (.inl h')
      · exact .inr (.inr h')
    · exact .inr (.inr (Nat.le_trans f.size h'))
  · rcases g.ownIn k p hp with h' | h'
    · exact ho _ h'
    · exact .inr (Nat.le_trans f.size h')
/-- A block that is nobody's changes. -/
theorem Inv.but (h : Inv u fx V w Im ob) (l : Nat) (hl : fx.w.heap.size ≤ l) (hIm : ¬ Im l) (hp : ∀ k p, plc (ob k) (V k) = some p → p.1 ≠ l) (w' : World) (os : w'.os = w.os) (tape : w'.tape = w.tape) (output : w'.output = w.output) (sz : w.heap.size ≤ w'.heap.size)
    (blk : ∀ b, b < w.heap.size → b ≠ l → w'.heap[b]? = w.heap[b]?) : Step u fx V w Im ob V w' Im ob := by
  have E : Ext V (Lv u ob) w Im V (Lv u ob) w' Im := ⟨fun _ h => ⟨h, rfl⟩, fun _ h => h, fun b hb => blk b (h.hr.imLt b hb) (fun e => hIm (e ▸ hb))⟩
  refine ⟨E, ⟨fun k => (h.hr.obs k).ext E fun p hp' => .of_block (blk _ (h.hr.lt k p hp') (hp k p hp')), h.hr.disj, h.hr.notIm, fun k p hp => Nat.lt_of_lt_of_le (h.hr.lt k p hp) sz, fun b hb => Nat.lt_of_lt_of_le (h.hr.imLt b hb) sz⟩, ?_⟩
  have f := h.fr
  refine ⟨os.trans f.os, tape.trans f.tape, output.trans f.output, Nat.le_trans f.size sz, fun b hb hO => (blk b (Nat.lt_of_lt_of_le hb f.size) (by omega)).trans (f.block b hb hO), fun b o hb h1 h2 => ?_, f.imUp, f.imIn, f.ownIn, f.keys⟩
  have hbb := blk b (Nat.lt_of_lt_of_le hb f.size) (by omega)
  have := f.cell b o hb h1 h2
  exact ⟨(World.cell?_of_block (w := w) (w' := w') (a := ⟨b, o, none⟩) hbb).trans this.1, (World.frozen?_of_block (w := w) (w' := w') (a := ⟨b, o, none⟩) hbb).trans this.2⟩
end

/-! ### The program -/
def hn0 : Nat → Option Hn := fun f => bif Nat.ble 212 f then none else some ⟨fun _ => some (.unroll 40)⟩
def ext0 : FuncId → Option (Xt un Unit) := fun f =>
  bif Nat.beq f 80 then some (cloneX (.int .u8) 1) else bif Nat.beq f 125 then some (cloneX .str 16) else none
noncomputable def pg0 : Pg un Unit where
  T := fun t => nthT tab t
  sg := fun _ => none
  fns := fnsOf Tryz.prog hn0
  ext := ext0
def allOps : Code → List Oper
  | .region _ ops _ => ops.toList
  | .seq a b => allOps a ++ allOps b
  | .cond _ a b => allOps a ++ allOps b
  | _ => []
def opAt (c : Option Code) (i : Nat) : Oper := match c with
  | some c => match nthO (allOps c) i with
    | some o => o
    | none => default
  | none => default
noncomputable def ops80 := opAt Tryz.f80.body
noncomputable def ops125 := opAt Tryz.f125.body
theorem tab34 : ∃ a b c d e, nthT tab 34 = some (⟨.sl 5, a, b, c, d, e⟩ : TI un) := by
  have h : (match nthT tab 34 with | some ⟨.sl e, _, _, _, _, _⟩ => Nat.beq e 5 | _ => false) = true := by kernel_rfl
  split at h
  · rename_i e a b c d f he
    exact ⟨a, b, c, d, f, by rw [he, Nat.eq_of_beq_eq_true h]⟩
  · cases h
theorem tab44 : ∃ a b c d e, nthT tab 44 = some (⟨.sl 9, a, b, c, d, e⟩ : TI un) := by
  have h : (match nthT tab 44 with | some ⟨.sl e, _, _, _, _, _⟩ => Nat.beq e 9 | _ => false) = true := by kernel_rfl
  split at h
  · rename_i e a b c d f he
    exact ⟨a, b, c, d, f, by rw [he, Nat.eq_of_beq_eq_true h]⟩
  · cases h
theorem tab5 : ∃ ti : TI un, nthT tab 5 = some ti ∧ ti.den = some (.int .u8) ∧ ti.bytes = 1 := by
  have h : (match nthT tab 5 with | some ⟨_, _, _, b, _, some (.int .u8)⟩ => Nat.beq b 1 | _ => false) = true := by kernel_rfl
  split at h
  · rename_i k a b c d he
    exact ⟨_, he, rfl, Nat.eq_of_beq_eq_true h⟩
  · cases h
theorem tab9 : ∃ ti : TI un, nthT tab 9 = some ti ∧ ti.den = some .str ∧ ti.bytes = 16 := by
  have h : (match nthT tab 9 with | some ⟨_, _, _, b, _, some .str⟩ => Nat.beq b 16 | _ => false) = true := by kernel_rfl
  split at h
  · rename_i k a b c d he
    exact ⟨_, he, rfl, Nat.eq_of_beq_eq_true h⟩
  · cases h
theorem clone80 : OrcOk Tryz.prog (fun f' xs os (K : List (SV un) → List (Ob un) → Option Unit) => bif Nat.beq 80 f' then cloneX (.int .u8) 1 xs os K else none) := by
  obtain ⟨a, b, c, d, e, h1⟩ := tab34
  obtain ⟨ti, h2, h3, h4⟩ := tab5
  have := clone_ok (R := Unit) tabOk Tryz.func80 (by kernel_rfl) (st := 34) (st' := 34) (r0 := 0) (r1 := 1) (r2 := 2) (r3 := 3) (t := fun i => (ops80 i).type) (p := fun i => (ops80 i).pos) (ed := fun i => (ops80 i).after) (by kernel_rfl) (by kernel_rfl) (by kernel_rfl) h1 h2 h3
  rw [h4] at this
  exact this
theorem clone125 : OrcOk Tryz.prog (fun f' xs os (K : List (SV un) → List (Ob un) → Option Unit) => bif Nat.beq 125 f' then cloneX .str 16 xs os K else none) := by
  obtain ⟨a, b, c, d, e, h1⟩ := tab44
  obtain ⟨ti, h2, h3, h4⟩ := tab9
  have := clone_ok (R := Unit) tabOk Tryz.func125 (by kernel_rfl) (st := 44) (st' := 44) (r0 := 0) (r1 := 1) (r2 := 2) (r3 := 3) (t := fun i => (ops125 i).type) (p := fun i => (ops125 i).pos) (ed := fun i => (ops125 i).after) (by kernel_rfl) (by kernel_rfl) (by kernel_rfl) h1 h2 h3
  rw [h4] at this
  exact this
theorem ok0 : PgOk Tryz.prog pg0 := by
  refine pgOk_of (n := 212) tabOk rfl (fun f hf => ?_) (by kernel_rfl) (fun f e he => ?_) (fun f e he => ?_)
  · show (bif Nat.ble 212 f then none else _) = none
    rw [Nat.ble_eq_true_of_le hf]
    rfl
  · have he : ext0 f = some e := he
    unfold ext0 at he
    cases h1 : Nat.beq f 80 with
    | true => rw [h1] at he; cases he; cases Nat.eq_of_beq_eq_true h1; exact clone80
    | false =>
      rw [h1] at he
      cases h2 : Nat.beq f 125 with
      | true => rw [h2] at he; cases he; cases Nat.eq_of_beq_eq_true h2; exact clone125
      | false => rw [h2] at he; cases he
  · have he : ext0 f = some e := he
    unfold ext0 at he
    cases h1 : Nat.beq f 80 with
    | true => rw [h1] at he; cases he; exact me_cloneX _ _
    | false =>
      rw [h1] at he
      cases h2 : Nat.beq f 125 with
      | true => rw [h2] at he; cases he; exact me_cloneX _ _
      | false => rw [h2] at he; cases he

/-! ### The law's body, part by part -/
def cL : Code → Code
  | .seq a _ => a
  | c => c
def cR : Code → Code
  | .seq _ b => b
  | c => c
def cB : Code → Code
  | .block _ c => c
  | c => c
def cF : Code → Code
  | .rangeFunc _ _ _ b => b
  | c => c
noncomputable def c0 : Code := (Tryz.f3.body).getD .skip
noncomputable def nA := cL c0
noncomputable def nB := cL (cR c0)
noncomputable def nC := cL (cR (cR c0))
noncomputable def nD := cL (cR (cR (cR c0)))
noncomputable def nG := cR (cR (cR (cR c0)))
noncomputable def nE := cL (cL nG)
noncomputable def nL := cF (cB (cR (cL nG)))
noncomputable def nF := cR nG
theorem body3 : Tryz.f3.body = some (.seq nA (.seq nB (.seq nC (.seq nD (.seq (.seq nE (.block 0 (.rangeFunc (.tmp 19) #[20, 21] .skip nL))) nF))))) := by kernel_rfl
noncomputable def cx : Cx un Unit := ⟨pg0.T, run pg0 30, pg0.sg⟩
def hn : Hn := ⟨fun _ => some (.unroll 40)⟩
noncomputable def nx (c : Code) (F : St un → Option Unit) (s : St un) : Option Unit := exec cx 3 hn 0 c (fun e s => match e with
  | .normal => F s
  | _ => none) s
noncomputable def endK (e : Ex) (s : St un) : Option Unit := match e with
  | .ret => match resOf pg0.T s [.cell 2 4] with
    | some [.v (.c ⟨.bool, true⟩)] => some ()
    | _ => none
  | _ => none
noncomputable def lastK (s : St un) : Option Unit := exec cx 3 hn 0 nF endK s
noncomputable def midK (s : St un) : Option Unit := match s.ev (.tmp 19) with
  | .sv (.v (.fn (.func f) caps)) => bif Nat.beq f 31 then callOp cx.o.fn cx.sg s.ob 999 31 (.v .dead :: caps.map fun a => .v a.av) (fun v us => lastK (s.obs us)) else none
  | _ => none
theorem evalAll (a b c : Value) : nx nA (nx nB (nx nC (nx nD (nx nE midK)))) ⟨slotsAt [.agg [.raw a, .raw b, .raw c]], obsAt []⟩ = some () := by kernel_rfl

/-! ### The walk -/
noncomputable abbrev P3 := Tryz.prog
section
variable {fx : Fix} {V : Nat → Value} {Im : Nat → Prop} {σ : St un} {a : Act} {w : World}
theorem parts (c : Code) (hc : ∃ l r : Code, True) : True := trivial
theorem code3 : codeIn Tryz.f3.ntmps nA = true ∧ codeIn Tryz.f3.ntmps nB = true ∧ codeIn Tryz.f3.ntmps nC = true ∧ codeIn Tryz.f3.ntmps nD = true ∧ codeIn Tryz.f3.ntmps nE = true ∧ codeIn Tryz.f3.ntmps nF = true :=
  ⟨by kernel_rfl, by kernel_rfl, by kernel_rfl, by kernel_rfl, by kernel_rfl, by kernel_rfl⟩
theorem draw3 : drawsIn nA = true ∧ drawsIn nB = true ∧ drawsIn nC = true ∧ drawsIn nD = true ∧ drawsIn nE = true ∧ drawsIn nF = true :=
  ⟨by kernel_rfl, by kernel_rfl, by kernel_rfl, by kernel_rfl, by kernel_rfl, by kernel_rfl⟩
theorem loop3 : loopsOf nA = [] ∧ loopsOf nB = [] ∧ loopsOf nC = [] ∧ loopsOf nD = [] ∧ loopsOf nE = [] ∧ loopsOf nF = [] :=
  ⟨by kernel_rfl, by kernel_rfl, by kernel_rfl, by kernel_rfl, by kernel_rfl, by kernel_rfl⟩
theorem cxok : OrcOk P3 cx.o.fn := (run_ok ok0 30).1
theorem cxme : OrcsME cx.o := me_run ok0.me 30
theorem lp3 (nt : Nat) (ls : List Code) (h : ls = []) : LpOk P3 cx.o.lp 3 nt ls := by
  subst h
  intro m id s K z hk c hc
  cases hc
theorem nx_ok {c : Code} (h1 : codeIn Tryz.f3.ntmps c = true) (h2 : drawsIn c = true) (h3 : loopsOf c = []) (hm : fx.m = 0) {F : St un → Option Unit} (h : Rel fx Tryz.f3.ntmps V Im σ a w) (hx : nx c F σ = some ()) {Q : Act → World → Prop} {Q' : Exit → Act → World → Prop}
    (hF : ∀ σ' a' V' Im' w', F σ' = some () → Rel fx Tryz.f3.ntmps V' Im' σ' a' w' → Q a' w') : c.wp P3 (Exit.then Q Q') a w := by
  refine exec_ok (cx := cx) ok0.T cxok cxme (lp3 _ _ h3) (m := 0) hm c h1 h2 (fun l hl => by rw [h3] at hl; cases hl) h (fun e σ' a' V' Im' w' hk h' => ?_) hx
  cases e with
  | normal => exact hF _ _ _ _ _ hk h'
  | exit id => cases hk
  | ret => cases hk
theorem enter31 (vs : Array Value) (w : World) : (callFunc 31 vs).run P3 w = .ok (.enter 31 vs) w := by
  obtain ⟨fn, c, h1, h2, h3⟩ : ∃ fn c, P3.funcs[31]? = some fn ∧ fn.body = some c ∧ (fn.name == "runtime.NumGoroutine") = false := ⟨Tryz.f31, _, Tryz.func31, rfl, by kernel_rfl⟩
  exact run_enter h1 h3 h2 vs w
theorem retEnd (h : Rel fx Tryz.f3.ntmps V Im σ a w) (hr : resOf pg0.T σ [.cell 2 4] = some [.v (.c ⟨.bool, true⟩)]) : (results Tryz.f3 a.tmps).run P3 w = .ok (.bool true) w := by
  obtain ⟨vs, hrun, hvs⟩ := resOf_ok (P := P3) ok0.T (g := fun x => match x with | .tmp t => pure (a.tmps.getD t undef) | .cell t ty => do loadVar ty (← asAddr (a.tmps.getD t undef))) (fun _ => rfl) (fun _ _ => rfl) h hr
  have e : Tryz.f3.results.toList = [.cell 2 4] := by kernel_rfl
  rw [← e] at hrun
  match vs, hvs, hrun with
  | [v], hv, hrun =>
    obtain rfl := (show CR un w Im v ⟨.bool, true⟩ from hv.1).bool_inv
    exact results_run rfl hrun
theorem mark_off {k : Nat} (h : Rel fx Tryz.f3.ntmps V Im σ a w) : True := trivial

theorem walk (x y z : Value) (hx : x.oneCell' = true) (hy : y.oneCell' = true) (hz : z.oneCell' = true) (W : World) :
    Calls P3 3 #[.agg #[x, y, z]] W fun e w' => e = .returned (.bool true) ∧ Below W.heap.size W w' := by
  rw [← callsIn_wide (n := 0)]
  refine callsIn_of_wp_marks Tryz.func3 body3 trivial ?_
  rw [wpIn_wide]
  have hob : ∀ k, obsF ([] : List (Ob un)) k = .fresh := fun k => obsF_none (by simp)
  have hr : HR un (fun _ => undef) W (fun _ => False) (obsF ([] : List (Ob un))) :=
    ⟨fun k => by rw [hob]; trivial, fun k k' p p' _ h => (by rw [hob] at h; cases h), fun k p h => (by rw [hob] at h; cases h), fun k p h => (by rw [hob] at h; cases h), fun b h => h.elim⟩
  have hargs : R2 (SR un (fun _ => undef) (Lv un (obsF ([] : List (Ob un)))) W (fun _ => False)) [.agg [.raw x, .raw y, .raw z]] [.agg #[x, y, z]] :=
    ⟨⟨[x, y, z], rfl, ⟨rfl, hx⟩, ⟨rfl, hy⟩, ⟨rfl, hz⟩, trivial⟩, trivial⟩
  have hrel : Rel (fixOf (fun _ => undef) W (fun _ => False) ([] : List (Ob un))) Tryz.f3.ntmps (fun _ => undef) (fun _ => False) (⟨slotsAt [.agg [.raw x, .raw y, .raw z]], obsAt []⟩ : St un)
      { tmps := #[Value.agg #[x, y, z]] ++ Array.replicate (Tryz.f3.ntmps - (#[Value.agg #[x, y, z]] : Array Value).size) undef, defers := [] } W := by
    refine ⟨by rw [obsAt_eq]; exact hr, by rw [obsAt_eq]; exact Fr.start (fun k hk => absurd hk (by simp)), fun i => ?_, ?_, rfl⟩
    · show SlR un _ (Lv un (obsAt [])) W _ (slotsAt _ i) _
      rw [obsAt_eq]
      exact slotsAt_ok hargs _ i
    · have : (1 : Nat) ≤ Tryz.f3.ntmps := of_decide_eq_true (by kernel_rfl)
      simp only [Array.size_append, Array.size_replicate]
      show 1 + (_ - 1) = _
      omega
  generalize hfx : fixOf (fun _ => undef) W (fun _ => False) ([] : List (Ob un)) = fx0 at hrel
  have fm : fx0.m = 0 := by rw [← hfx]; rfl
  have fw : fx0.w = W := by rw [← hfx]; rfl
  have fO : ∀ q, ¬ fx0.O q := by
    rw [← hfx]
    rintro q ⟨k, hk⟩
    rw [hob] at hk
    cases hk
  refine wp_seq (nx_ok code3.1 draw3.1 loop3.1 fm hrel (evalAll x y z) fun σ1 a1 V1 Im1 w1 k1 r1 => ?_)
  refine wp_seq (nx_ok code3.2.1 draw3.2.1 loop3.2.1 fm r1 k1 fun σ2 a2 V2 Im2 w2 k2 r2 => ?_)
  refine wp_seq (nx_ok code3.2.2.1 draw3.2.2.1 loop3.2.2.1 fm r2 k2 fun σ3 a3 V3 Im3 w3 k3 r3 => ?_)
  refine wp_seq (nx_ok code3.2.2.2.1 draw3.2.2.2.1 loop3.2.2.2.1 fm r3 k3 fun σ4 a4 V4 Im4 w4 k4 r4 => ?_)
  refine wp_seq ?_
  refine wp_seq (nx_ok code3.2.2.2.2.1 draw3.2.2.2.2.1 loop3.2.2.2.2.1 fm r4 k4 fun σ a V Im w k r => ?_)
  clear r1 r2 r3 r4 k1 k2 k3 k4
  refine wp_block ?_
  rw [← wpIn_wide (n := 0)]
  refine wpIn_rangeFunc fun fn _ => ?_
  unfold midK at k
  split at k
  case h_2 => cases k
  rename_i f caps he
  cases hf : Nat.beq f 31 with
  | false => rw [hf] at k; cases k
  | true =>
  rw [hf, cond_true] at k
  obtain rfl := Nat.eq_of_beq_eq_true hf
  have hv := ev_ok (L := Lv un σ.ob) r.sl (.tmp 19)
  rw [he] at hv
  obtain ⟨cs, hgv, hcs⟩ := hv
  generalize hw1 : (w.alloc (.deferred (some []))).alloc (.loop { state := .ready, pending := none, fn, tmps := a.tmps, params := #[20, 21], assign := .skip, body := nL, defers := w.heap.size }) = w1
  have z1 : w1.heap.size = w.heap.size + 2 := by rw [← hw1]; simp
  have o1 : ∀ b, b < w.heap.size → w1.heap[b]? = w.heap[b]? := fun b hb => by
    rw [← hw1, heap_alloc_old _ _ (by simp; omega), heap_alloc_old _ _ hb]
  have d1 : w1.heap[w.heap.size]? = some (.deferred (some [])) := by
    rw [← hw1, heap_alloc_old _ _ (by simp)]
    exact heap_alloc_new _ _
  have l1 : w1.heap[w.heap.size + 1]? = some (.loop { state := .ready, pending := none, fn, tmps := a.tmps, params := #[20, 21], assign := .skip, body := nL, defers := w.heap.size }) := by
    rw [← hw1]
    exact heap_alloc2_new _ _ _
  have s1 : Step un fx0 V w Im σ.ob V w1 Im σ.ob := r.inv.world w1 (by rw [← hw1]; rfl) (by rw [← hw1]; rfl) (by rw [← hw1]; rfl) (by omega) o1
  have h2 := Inv.hence s1.inv []
  have hplt : ∀ k p, plc (σ.ob k) (V k) = some p → p.1 < w.heap.size := r.hr.lt
  refine ⟨w.heap.size + 1, [{ target := .collected w.heap.size, args := #[] }], w1, ⟨.fn (.func 31) cs.toArray, #[.func (.yield (w.heap.size + 1)) #[] #[]]⟩, w1, 31, (.func (.yield (w.heap.size + 1)) #[] #[] :: cs).toArray, w1, ?_, ?_, fun _ _ => trivial, ?_, fun h => (by cases h), ?_⟩
  · rw [← hw1]
    exact run_enterLoop_outer _ _ _ _ _
  · simp [resolve, Deferred.ofValue, hgv]
    rfl
  · simp [invoke]
  rw [callsIn_wide]
  have hG := callOp_ok cxok h2 (vs := .func (.yield (w.heap.size + 1)) #[] #[] :: cs) (args := .v .dead :: caps.map fun a => .v a.av) ⟨trivial, R2.mapL _ (hcs.mono fun _ _ hx => AR.ext s1.ext (av_ok hx))⟩ k
  rcases hG with ⟨_, hC⟩ | ⟨v, w', e, _⟩
  case inr => rw [enter31] at e; cases e
  refine hC.mono fun e w3 ⟨v, e1, x3, us, V3, Im3, k3, s3, _⟩ => ?_
  subst e1
  have f3 := s3.inv.fr
  have noO : ∀ b, w.heap.size ≤ b → ∀ o, ¬ (hence V w1 Im σ.ob []).O (b, o) := by
    rintro b hb o ⟨k, hk⟩
    have := hplt k _ hk
    simp only at this
    omega
  have noIm3 : ∀ b, w.heap.size ≤ b → b < w1.heap.size → ¬ Im3 b := by
    intro b hb hb' h
    rcases f3.imIn b h with h | h | h
    · have := r.hr.imLt b h; omega
    · exact noO b hb _ h
    · have : w1.heap.size ≤ b := h
      omega
  have noP3 : ∀ b, w.heap.size ≤ b → b < w1.heap.size → ∀ k p, plc (upds σ.ob us k) (V3 k) = some p → p.1 ≠ b := by
    intro b hb hb' k p hp e
    rcases f3.ownIn k p hp with h | h
    · obtain ⟨b', o⟩ := p
      simp only at e
      subst e
      exact noO _ hb o h
    · have : w1.heap.size ≤ p.1 := h
      omega
  have l3 : w3.heap[w.heap.size + 1]? = w1.heap[w.heap.size + 1]? := f3.block _ (show _ < w1.heap.size by omega) (noO _ (by omega))
  have d3 : w3.heap[w.heap.size]? = w1.heap[w.heap.size]? := f3.block _ (show _ < w1.heap.size by omega) (noO _ (by omega))
  have z3 : w1.heap.size ≤ w3.heap.size := f3.size
  have hI3 : Inv un fx0 V3 w3 Im3 (upds σ.ob us) := ⟨s3.inv.hr, Fr.over s1.inv fm f3⟩
  have hend := run_endLoop (P := P3) (l3.trans l1) (by simp)
  refine ⟨_, _, hend, ?_⟩
  generalize hw4 : w3.putObj (w.heap.size + 1) _ = w4
  have z4 : w4.heap.size = w3.heap.size := by rw [← hw4]; simp [World.putObj]
  have o4 : ∀ b, b < w3.heap.size → b ≠ w.heap.size + 1 → w4.heap[b]? = w3.heap[b]? := fun b hb hne => by
    rw [← hw4]
    simp [World.putObj, Ne.symm hne]
  have fz : fx0.w.heap.size ≤ w.heap.size := r.fr.size
  have s4 : Step un fx0 V3 w3 Im3 (upds σ.ob us) V3 w4 Im3 (upds σ.ob us) := Inv.but hI3 (w.heap.size + 1) (by omega) (noIm3 _ (by omega) (by omega)) (noP3 _ (by omega) (by omega)) w4 (by rw [← hw4]; rfl) (by rw [← hw4]; rfl) (by rw [← hw4]; rfl) (by omega) o4
  show nF.wp P3 _ _ w4
  have h4 := Inv.hence s4.inv [{ target := .collected w.heap.size, args := #[] }]
  have r4 : Rel (hence V3 w4 Im3 (upds σ.ob us) [{ target := .collected w.heap.size, args := #[] }]) Tryz.f3.ntmps V3 Im3 (σ.obs us) { a with defers := [{ target := .collected w.heap.size, args := #[] }] ++ a.defers } w4 :=
    ⟨h4.hr, h4.fr, fun i => SlR.ext s4.ext (SlR.ext s3.ext (SlR.ext s1.ext (r.sl i))), r.nt, by show _ ++ a.defers = _; rw [r.df, ← hfx]; rfl⟩
  refine exec_ok (cx := cx) ok0.T cxok cxme (lp3 _ _ loop3.2.2.2.2.2) (m := 0) rfl nF code3.2.2.2.2.2 draw3.2.2.2.2.2 (fun l hl => by rw [loop3.2.2.2.2.2] at hl; cases hl) r4 (fun e σ5 a5 V5 Im5 w5 k5 r5 => ?_) k3
  cases e with
  | normal => cases k5
  | exit id => cases k5
  | ret =>
  simp only [endK] at k5
  split at k5
  case h_2 => cases k5
  rename_i hres
  have f5 := r5.fr
  have noO4 : ∀ o, ¬ (hence V3 w4 Im3 (upds σ.ob us) [{ target := .collected w.heap.size, args := #[] }]).O (w.heap.size, o) := by
    rintro o ⟨k, hk⟩
    exact noP3 w.heap.size (Nat.le_refl _) (by omega) k _ hk rfl
  have d5 : w5.heap[w.heap.size]? = some (.deferred (some [])) := by
    rw [f5.block _ (show _ < w4.heap.size by omega) noO4]
    show w4.heap[w.heap.size]? = _
    rw [o4 _ (by omega) (by omega), d3, d1]
  have hI5 : Inv un fx0 V5 w5 Im5 σ5.ob := ⟨r5.hr, Fr.over s4.inv fm f5⟩
  have htake := run_takeDeferred (P := P3) d5
  generalize hw6 : w5.putObj w.heap.size (.deferred none) = w6 at htake
  have z6 : w6.heap.size = w5.heap.size := by rw [← hw6]; simp [World.putObj]
  have o6 : ∀ b, b < w5.heap.size → b ≠ w.heap.size → w6.heap[b]? = w5.heap[b]? := fun b hb hne => by
    rw [← hw6]
    simp [World.putObj, Ne.symm hne]
  have noIm5 : ¬ Im5 w.heap.size := by
    intro h
    rcases f5.imIn _ h with h | h | h
    · exact noIm3 _ (Nat.le_refl _) (by omega) h
    · exact noO4 _ h
    · have : w4.heap.size ≤ w.heap.size := h
      omega
  have noP5 : ∀ k p, plc (σ5.ob k) (V5 k) = some p → p.1 ≠ w.heap.size := by
    intro k p hp e
    rcases f5.ownIn k p hp with h | h
    · obtain ⟨b', o⟩ := p
      simp only at e
      subst e
      exact noO4 o h
    · have : w4.heap.size ≤ p.1 := h
      omega
  have s6 : Step un fx0 V5 w5 Im5 σ5.ob V5 w6 Im5 σ5.ob := Inv.but hI5 w.heap.size fz noIm5 noP5 w6 (by rw [← hw6]; rfl) (by rw [← hw6]; rfl) (by rw [← hw6]; rfl) (by omega) o6
  have h6 := Inv.hence s6.inv a5.defers
  have r6 : Rel (hence V5 w6 Im5 σ5.ob a5.defers) Tryz.f3.ntmps V5 Im5 σ5 a5 w6 := ⟨h6.hr, h6.fr, fun i => SlR.ext s6.ext (r5.sl i), r5.nt, rfl⟩
  have hdf : a5.defers = [{ target := .collected w.heap.size, args := #[] }] := r5.df
  show LeavesInM Fence.wide 0 P3 Tryz.f3 a5.tmps _ a5.defers .returning w5
  rw [hdf]
  refine ⟨by simp, .inl ⟨w.heap.size, w6, rfl, htake, .bool true, retEnd r6 hres, rfl, ?_⟩⟩
  have f6 := s6.inv.fr
  have g1 := f6.os
  have g2 := f6.tape
  have g3 := f6.output
  have g4 := f6.size
  have g5 := f6.block
  rw [fw] at g1 g2 g3 g4 g5
  exact ⟨g1, g2, g3, g4, fun b hb => g5 b hb fun o => fO _⟩
end
/-! ### The statement -/
set_option maxRecDepth 100000
open Go.ChangeShapes Go.WideShapes Go.ChangeAt
theorem own : ownKnob Tryz.prog.godebug = none := by kernel_rfl
theorem laidOut : laidOutB Tryz.prog = true := by kernel_rfl
theorem one_okWide {P : Program} {W : World} {b : Nat} {t : TypeId} {v : Value} (h : Cell.okWide P W .any b t v) : v.oneCell' = true := by
  cases v <;> first
    | rfl
    | (unfold Cell.okWide Cell.ok at h
       generalize P.underlying t = o at h
       cases o with
       | none => exact (show False from h).elim
       | some d => cases d <;> exact (show False from h).elim)
theorem arg24 {W : World} {b : Nat} {v : Value} (h : Value.okWide Tryz.prog W .any b 24 v) : ∃ x y z, v = .agg #[x, y, z] ∧ x.oneCell' = true ∧ y.oneCell' = true ∧ z.oneCell' = true := by
  obtain ⟨fs, hfs⟩ : ∃ fs, Tryz.prog.underlying 24 = some (.struct fs) := ⟨_, Tryz.underlying24⟩
  have hc : Tryz.prog.cellsOf 24 = 3 := by kernel_rfl
  unfold Value.okWide at h
  rw [hfs] at h
  obtain ⟨cs, rfl, hs, ts, _, _, hk⟩ := h
  rw [hc] at hs
  obtain ⟨l⟩ := cs
  match l, hs, hk with
  | [x, y, z], _, hk =>
  exact ⟨x, y, z, rfl, by obtain ⟨_, _, h⟩ := hk 0 x rfl; exact one_okWide h, by obtain ⟨_, _, h⟩ := hk 1 y rfl; exact one_okWide h, by obtain ⟨_, _, h⟩ := hk 2 z rfl; exact one_okWide h⟩

theorem lifted (os : Os) (started : os.Started) (H : Type) (enc : TypeId × Value → H) :
    ReturnsInHanded {} Tryz.checked os 3 .any (Rows.bagNobodySpec.pre6 enc Tryz.prog Tryz.f3 Rows.bagNobodyRow.domain false) (Rows.bagNobodySpec.post enc Tryz.prog Tryz.f3 false true false false) := by
  refine returnsInHanded_of_change (C := Tryz.checked) own started (by kernel_rfl) Tryz.func3
    (ChangeSpec.witness6 (enc := enc) (C := Tryz.checked) false ⟨#[], #[.agg #[.int .i64 0, .slice none 0 0, .int .i64 0]], []⟩ 8 (by kernel_rfl) (by kernel_rfl) (by kernel_rfl) (by kernel_rfl)) ?_
  intro W base args ds gs before hval hW _ _
  have hW' := hW
  obtain ⟨p, q, hA0, hV, rfl, hfz, hnd⟩ := hW
  have hA : DataW.TrodAll enc Tryz.prog W 0 (fun _ => true) true Tryz.f3.params.toList args.toList ds p := hA0
  rw [Tryz.params3] at hA hval
  obtain ⟨v0, d0, rfl, rfl, h0⟩ := trodAll_one hA
  obtain ⟨rfl, rfl⟩ := trodVars_none hV
  obtain ⟨x, y, z, rfl, hx, hy, hz⟩ := arg24 (hval 0 24 v0 rfl rfl)
  clear hA0 hA hV
  have hlt : ∀ x ∈ p, x.block < W.heap.size := fun x hx => hW'.lt x (List.mem_append_left _ hx)
  refine (walk x y z hx hy hz W).mono fun e W' ⟨he, hB⟩ => ?_
  subst he
  refine ⟨_, rfl, _, _, _, [], p, [], hW', ?_, ?_, ?_, hB.frame _, fun h => by cases h⟩
  · exact trodAll_mk1 (shut_bool Tryz.underlying4 _)
  · exact trodAll_mk1 (Below.trod laidOut (by kernel_rfl) (of_decide_eq_true (by kernel_rfl)) h0 hB hlt)
  · rfl

/-- BagNobody holds. -/
theorem proved : Rows.BagNobodySaid :=
  OpenClaim.holds_of_wide 3 Tryz.f3 rfl rfl rfl rfl rfl rfl rfl ⟨rfl, rfl, rfl, rfl, rfl⟩ rfl rfl rfl rfl rfl (by kernel_rfl) Tryz.func3 (by kernel_rfl)
    (of_decide_eq_true (by kernel_rfl)) (by unfold Func.isWrapper; first | (rw [if_pos (by decide +kernel)]; kernel_rfl) | (rw [if_neg (by decide +kernel)]; exact ⟨rfl, rfl⟩))
    (fun os started H enc _ => lifted os started H enc)
end Go.Proofs.YthnghbelgjdinaaGreat.Nobody
