/- CursorNobody: a nil cursor tells nothing, and refuses everything. No condition. -/
import Derived.Test.YtmppaodhihnejaaGreatClone
import Derived.Test.YtmppaodhihnejaaGreatExts
import Derived.Test.YtmppaodhihnejaaGreatY
import Derived.Test.YtmppaodhihnejaaGreatRows
import Derived.ProofKit
import Derived.OpenShut
import Derived.JoinedOf
set_option linter.unusedVariables false
namespace Go.Proofs.YtmppaodhihnejaaGreat.CNob
open Go Go.RowKit Go.Proofs.YtmppaodhihnejaaGreat Go.Proofs.YtmppaodhihnejaaGreat.M

def hn0 : Nat → Option Hn := fun f => bif Nat.ble 170 f || false then none else some ⟨fun _ => some (.unroll 80)⟩
def sB : FS := ⟨[.d .str, .d (.int .u8)], [], [.d (.int .i64)], []⟩
def sC : FS := ⟨[.d .str, .d .str], [], [.d (.int .i64)], []⟩
def exB : Xt un Unit := extS sB fun x K => K ((ixByteF x.1.1 x.1.2.1, ()), ())
def exC : Xt un Unit := extS sC fun x K => K ((cmpStrF x.1.1 x.1.2.1, ()), ())
def ext0 : FuncId → Option (Xt un Unit) := fun f =>
  bif Nat.beq f 16 then some (cloneX (.int .u8) 1) else bif Nat.beq f 19 then some (cloneX .str 16) else bif Nat.beq f 143 then some exB else bif Nat.beq f 152 then some exC else none
noncomputable def pg0 : Pg un Unit where
  T := fun t => nthT tab t
  sg := fun _ => none
  fns := fnsOf Tryz.prog hn0
  ext := ext0
def allOps : Code → List Oper
  | .region _ ops _ => ops.toList
  | .seq a b => allOps a ++ allOps b
  | .cond _ a b => allOps a ++ allOps b
  | _ => []
def opAt (c : Option Code) (i : Nat) : Oper := match c with
  | some c => match nthO (allOps c) i with
    | some o => o
    | none => default
  | none => default
noncomputable def opsB := opAt Tryz.f16.body
noncomputable def opsS := opAt Tryz.f19.body
theorem tabSB : ∃ a b c d e, nthT tab 34 = some (⟨.sl 5, a, b, c, d, e⟩ : TI un) := by
  have h : (match nthT tab 34 with | some ⟨.sl e, _, _, _, _, _⟩ => Nat.beq e 5 | _ => false) = true := by kernel_rfl
  split at h
  · rename_i e a b c d f he
    exact ⟨a, b, c, d, f, by rw [he, Nat.eq_of_beq_eq_true h]⟩
  · cases h
theorem tabSS : ∃ a b c d e, nthT tab 28 = some (⟨.sl 9, a, b, c, d, e⟩ : TI un) := by
  have h : (match nthT tab 28 with | some ⟨.sl e, _, _, _, _, _⟩ => Nat.beq e 9 | _ => false) = true := by kernel_rfl
  split at h
  · rename_i e a b c d f he
    exact ⟨a, b, c, d, f, by rw [he, Nat.eq_of_beq_eq_true h]⟩
  · cases h
theorem tab5 : ∃ ti : TI un, nthT tab 5 = some ti ∧ ti.den = some (.int .u8) ∧ ti.bytes = 1 := by
  have h : (match nthT tab 5 with | some ⟨_, _, _, b, _, some (.int .u8)⟩ => Nat.beq b 1 | _ => false) = true := by kernel_rfl
  split at h
  · rename_i k a b c d he
    exact ⟨_, he, rfl, Nat.eq_of_beq_eq_true h⟩
  · cases h
theorem tab9 : ∃ ti : TI un, nthT tab 9 = some ti ∧ ti.den = some .str ∧ ti.bytes = 16 := by
  have h : (match nthT tab 9 with | some ⟨_, _, _, b, _, some .str⟩ => Nat.beq b 16 | _ => false) = true := by kernel_rfl
  split at h
  · rename_i k a b c d he
    exact ⟨_, he, rfl, Nat.eq_of_beq_eq_true h⟩
  · cases h
theorem cloneB : OrcOk Tryz.prog (fun f' xs os (K : List (SV un) → List (Ob un) → Option Unit) => bif Nat.beq 16 f' then cloneX (.int .u8) 1 xs os K else none) := by
  obtain ⟨a, b, c, d, e, h1⟩ := tabSB
  obtain ⟨ti, h2, h3, h4⟩ := tab5
  have := clone_ok (R := Unit) tabOk Tryz.func16 (by kernel_rfl) (st := 34) (st' := 34) (r0 := 0) (r1 := 1) (r2 := 2) (r3 := 3) (t := fun i => (opsB i).type) (p := fun i => (opsB i).pos) (ed := fun i => (opsB i).after) (by kernel_rfl) (by kernel_rfl) (by kernel_rfl) h1 h2 h3
  rw [h4] at this
  exact this
theorem cloneS : OrcOk Tryz.prog (fun f' xs os (K : List (SV un) → List (Ob un) → Option Unit) => bif Nat.beq 19 f' then cloneX .str 16 xs os K else none) := by
  obtain ⟨a, b, c, d, e, h1⟩ := tabSS
  obtain ⟨ti, h2, h3, h4⟩ := tab9
  have := clone_ok (R := Unit) tabOk Tryz.func19 (by kernel_rfl) (st := 28) (st' := 28) (r0 := 0) (r1 := 1) (r2 := 2) (r3 := 3) (t := fun i => (opsS i).type) (p := fun i => (opsS i).pos) (ed := fun i => (opsS i).after) (by kernel_rfl) (by kernel_rfl) (by kernel_rfl) h1 h2 h3
  rw [h4] at this
  exact this
theorem goodB : GoodE Tryz.prog 143 exB := good_ixByte Tryz.func143 (by kernel_rfl) (by kernel_rfl) (by kernel_rfl) (by kernel_rfl)
theorem goodC : GoodE Tryz.prog 152 exC := good_cmpStr Tryz.func152 (by kernel_rfl) (by kernel_rfl) (by kernel_rfl) (by kernel_rfl)
theorem ext_ok : ∀ f e, ext0 f = some e → OrcOk Tryz.prog (fun f' xs os K => bif Nat.beq f f' then e xs os K else none) ∧ ∀ xs os, ME2 (e xs os) := by
  intro f e he
  unfold ext0 at he
  cases h1 : Nat.beq f 16 with
  | true => rw [h1] at he; cases he; cases Nat.eq_of_beq_eq_true h1; exact ⟨cloneB, me_cloneX _ _⟩
  | false =>
    rw [h1] at he
    cases h2 : Nat.beq f 19 with
    | true => rw [h2] at he; cases he; cases Nat.eq_of_beq_eq_true h2; exact ⟨cloneS, me_cloneX _ _⟩
    | false =>
      rw [h2] at he
      cases h3 : Nat.beq f 143 with
      | true => rw [h3] at he; cases he; cases Nat.eq_of_beq_eq_true h3; exact orc_of_good goodB
      | false =>
        rw [h3] at he
        cases h4 : Nat.beq f 152 with
        | true => rw [h4] at he; cases he; cases Nat.eq_of_beq_eq_true h4; exact orc_of_good goodC
        | false => rw [h4] at he; cases he
theorem ok0 : PgOk Tryz.prog pg0 := by
  refine pgOk_of (n := 170) tabOk rfl (fun f hf => ?_) (by kernel_rfl) (fun f e he => (ext_ok f e he).1) (fun f e he => (ext_ok f e he).2)
  show (bif Nat.ble 170 f || false then none else _) = none
  rw [Nat.ble_eq_true_of_le hf]
  rfl

def resK : List (SV un) → List (Ob un) → Option Unit
  | [.v (.c ⟨.bool, true⟩)], [] => some ()
  | _, _ => none
theorem evalAll (a b : Value) : (run pg0 60).fn 3 [.v (.raw a), .v (.raw b)] [] resK = some () := by kernel_rfl
theorem enterL (vs : Array Value) (w : World) : (callFunc 3 vs).run Tryz.prog w = .ok (.enter 3 vs) w := by
  obtain ⟨fn, c, h1, h2, h3⟩ : ∃ fn c, Tryz.prog.funcs[3]? = some fn ∧ fn.body = some c ∧ (fn.name == "runtime.NumGoroutine") = false := ⟨Tryz.f3, _, Tryz.func3, rfl, by kernel_rfl⟩
  exact run_enter h1 h3 h2 vs w
theorem walk (x y : Value) (hx : x.oneCell' = true) (hy : y.oneCell' = true) (W : World) : Calls Tryz.prog 3 #[x, y] W fun e w' => e = .returned (.bool true) ∧ Below W.heap.size W w' := by
  have hob : ∀ k, obsF ([] : List (Ob un)) k = .fresh := fun k => obsF_none (by simp)
  have hr : HR un (fun _ => undef) W (fun _ => False) (obsF ([] : List (Ob un))) :=
    ⟨fun k => by rw [hob]; trivial, fun k k' p p' _ h => (by rw [hob] at h; cases h), fun k p h => (by rw [hob] at h; cases h), fun k p h => (by rw [hob] at h; cases h), fun b h => h.elim⟩
  have hargs : R2 (SR un (fun _ => undef) (Lv un (obsF ([] : List (Ob un)))) W (fun _ => False)) [.v (.raw x), .v (.raw y)] [x, y] := ⟨⟨rfl, hx⟩, ⟨rfl, hy⟩, trivial⟩
  rcases (run_ok ok0 60).1 3 _ [] resK () (evalAll x y) (fun _ => undef) W (fun _ => False) [x, y] hr (fun k hk => absurd hk (by simp)) hargs with ⟨_, hC⟩ | ⟨v, w', e, _⟩
  case inr => rw [enterL] at e; cases e
  refine hC.mono fun e w' ⟨v, e1, res, obs, V', Im', hk, s, hv⟩ => ?_
  subst e1
  unfold resK at hk
  split at hk
  · obtain rfl := (show CR un w' Im' v ⟨.bool, true⟩ from hv).bool_inv
    have f := s.inv.fr
    refine ⟨rfl, f.os, f.tape, f.output, f.size, fun b hb => f.block b hb fun o ⟨k, hk⟩ => ?_⟩
    rw [hob] at hk
    cases hk
  · cases hk

/-! ### The statement -/
set_option maxRecDepth 100000
open Go.ChangeShapes Go.WideShapes Go.ChangeAt
theorem own : ownKnob Tryz.prog.godebug = none := by kernel_rfl
theorem laidOut : laidOutB Tryz.prog = true := by kernel_rfl
theorem one_okWide {P : Program} {W : World} {b : Nat} {t : TypeId} {v : Value} (h : Cell.okWide P W .any b t v) : v.oneCell' = true := by
  cases v <;> first
    | rfl
    | (unfold Cell.okWide Cell.ok at h
       generalize P.underlying t = o at h
       cases o with
       | none => exact (show False from h).elim
       | some d => cases d <;> exact (show False from h).elim)
theorem arg_one {W : World} {b : Nat} {t : TypeId} {v : Value} (ht : (match Tryz.prog.underlying t with | some (.struct _) => false | some (.array _ _) => false | _ => true) = true) (h : Value.okWide Tryz.prog W .any b t v) : v.oneCell' = true := by
  unfold Value.okWide at h
  split at h
  · rename_i hu; rw [hu] at ht; cases ht
  · rename_i hu; rw [hu] at ht; cases ht
  · exact one_okWide h
theorem lifted (os : Os) (started : os.Started) (H : Type) (enc : TypeId × Value → H) :
    ReturnsInHanded {} Tryz.checked os 3 .any (Rows.cursorNobodySpec.pre6 enc Tryz.prog Tryz.f3 Rows.cursorNobodyRow.domain false) (Rows.cursorNobodySpec.post enc Tryz.prog Tryz.f3 false true false false) := by
  refine returnsInHanded_of_change (C := Tryz.checked) own started (by kernel_rfl) Tryz.func3
    (ChangeSpec.witness6 (enc := enc) (C := Tryz.checked) false ⟨#[], #[.slice none 0 0, .int .i64 0], []⟩ 8 (by kernel_rfl) (by kernel_rfl) (by kernel_rfl) (by kernel_rfl)) ?_
  intro W base args ds gs before hval hW _ _
  have hW' := hW
  obtain ⟨p, q, hA0, hV, rfl, hfz, hnd⟩ := hW
  have hA : DataW.TrodAll enc Tryz.prog W 0 (fun _ => true) true Tryz.f3.params.toList args.toList ds p := hA0
  rw [Tryz.params3] at hA hval
  obtain ⟨v0, v1, d0, d1, p0, p1, rfl, rfl, rfl, h0, h1⟩ := trodAll_two hA
  obtain ⟨rfl, rfl⟩ := trodVars_none hV
  have o0 := arg_one (by kernel_rfl) (hval 0 22 v0 rfl rfl)
  have o1 := arg_one (by kernel_rfl) (hval 1 3 v1 rfl rfl)
  clear hA0 hA hV
  have hlt0 : ∀ x ∈ p0, x.block < W.heap.size := fun x hx => hW'.lt x (List.mem_append_left _ (List.mem_append_left _ hx))
  have hlt1 : ∀ x ∈ p1, x.block < W.heap.size := fun x hx => hW'.lt x (List.mem_append_left _ (List.mem_append_right _ hx))
  refine (walk v0 v1 o0 o1 W).mono fun e W' ⟨he, hB⟩ => ?_
  subst he
  refine ⟨_, rfl, _, _, _, [], p0 ++ p1, [], hW', ?_, ?_, ?_, hB.frame _, fun h => by cases h⟩
  · exact trodAll_mk1 (shut_bool Tryz.underlying4 _)
  · exact trodAll_mk2 (Below.trod laidOut (by kernel_rfl) (of_decide_eq_true (by kernel_rfl)) h0 hB hlt0) (Below.trod laidOut (by kernel_rfl) (of_decide_eq_true (by kernel_rfl)) h1 hB hlt1)
  · rfl

end Go.Proofs.YtmppaodhihnejaaGreat.CNob
