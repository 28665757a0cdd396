/- Functions that the model answers itself: the place of a byte in a text; the order of two texts. -/
import Derived.Test.YtmppaodhihnejaaGreatSpec
import Derived.Lib.Bytealg
import Derived.Laws.Externs
set_option linter.unusedVariables false
namespace Go.Proofs.YtmppaodhihnejaaGreat.M
open Go

section
variable {P : Program} {u : Uni} {R : Type}
theorem orc_of_good {f : FuncId} {e : Xt u R} (h : GoodE P f e) : OrcOk P (fun f' xs os K => bif Nat.beq f f' then e xs os K else none) ∧ ∀ xs os, ME2 (e xs os) := by
  constructor
  · intro f' xs os K z hk V w Im vs h1 h2 h3
    simp only at hk
    cases hb : Nat.beq f f' with
    | false => rw [hb] at hk; cases hk
    | true =>
      rw [hb] at hk
      cases Nat.eq_of_beq_eq_true hb
      obtain ⟨res, obs, g1, g2, _⟩ := h xs os K z hk
      exact (g2 V w Im vs h1 h2 h3).mono fun v w' ⟨V', Im', s, hv⟩ => ⟨res, obs, V', Im', g1, s, hv⟩
  · intro xs os kk z hk
    obtain ⟨res, obs, g1, _, g3⟩ := h xs os kk z hk
    exact ⟨res, obs, g1, g3⟩
/-- A function without a body, whose arguments are data. -/
theorem good_ext {f : FuncId} {fn : Func} {e : Array Value → Sem Value} (hf : P.funcs[f]? = some fn) (hname : (fn.name == "runtime.NumGoroutine") = false) (hb : fn.body.isNone = true) (hn : Extern.findNext fn = none) (he : Extern.find fn = some e)
    {as_ : List PS} {τ : Ty} (hτ : τ.single = true) (F : asT u as_ → u.D τ)
    (hrun : ∀ (x : asT u as_) (V : Nat → Value) (L : Nat → Prop) (w : World) (Im : Nat → Prop) (vs : List Value), R2 (SR u V L w Im) (asMk as_ x) vs → ∃ v, (e vs.toArray).run P w = .ok v w ∧ CR u w Im v ⟨τ, F x⟩) :
    GoodE P f (extS (u := u) (R := R) ⟨as_, [], [.d τ], []⟩ (fun x K => K ((F x.1, ()), ()))) := by
  intro xs os kk z hk
  obtain ⟨x, rfl, rfl, hx⟩ := extS_some hk
  rw [hx] at hk
  refine ⟨_, _, hk, fun V w Im vs h1 h2 h3 => ?_, fun kk' z' h' => by rw [hx]; exact h'⟩
  obtain ⟨v, hv, hc⟩ := hrun x.1 V _ w Im vs h3
  refine .inr ⟨v, w, ?_, V, Im, .refl ⟨h1, Fr.start h2⟩, ?_⟩
  · rw [run_callFunc_extern hf hname hb hn he, hv]
    rfl
  · show SR u V _ w Im (SV.of u τ (F x.1)) v
    unfold SV.of
    rw [hτ]
    exact hc
def ixByteF (s : List UInt8) (c : Int) : Int := Lib.indexByte s c.toNat.toUInt8
def cmpStrF (a b : List UInt8) : Int := Lib.compareBytes a b
theorem good_ixByte {f : FuncId} {fn : Func} (hf : P.funcs[f]? = some fn) (hname : (fn.name == "runtime.NumGoroutine") = false) (hb : fn.body.isNone = true) (hn : Extern.findNext fn = none) (he : Extern.find fn = some Extern.BytealgIndexByte.indexByte) :
    GoodE P f (extS (u := u) (R := R) ⟨[.d .str, .d (.int .u8)], [], [.d (.int .i64)], []⟩ (fun x K => K ((ixByteF x.1.1 x.1.2.1, ()), ()))) := by
  refine good_ext (u := u) hf hname hb hn he (as_ := [.d .str, .d (.int .u8)]) (τ := .int .i64) rfl (fun (x : List UInt8 × Int × Unit) => ixByteF x.1 x.2.1) ?_
  rintro ⟨s, c, _⟩ V L w Im vs h
  match vs, h with
  | [v1, v2], h =>
    obtain rfl := CR.str_inv (show CR u w Im v1 ⟨.str, s⟩ from h.1)
    obtain rfl := CR.int_inv (show CR u w Im v2 ⟨.int .u8, c⟩ from h.2.1)
    exact ⟨_, Lib.run_indexByteString _ _ _, .int _ _⟩
theorem good_cmpStr {f : FuncId} {fn : Func} (hf : P.funcs[f]? = some fn) (hname : (fn.name == "runtime.NumGoroutine") = false) (hb : fn.body.isNone = true) (hn : Extern.findNext fn = none) (he : Extern.find fn = some Extern.BytealgCompare.compare) :
    GoodE P f (extS (u := u) (R := R) ⟨[.d .str, .d .str], [], [.d (.int .i64)], []⟩ (fun x K => K ((cmpStrF x.1.1 x.1.2.1, ()), ()))) := by
  refine good_ext (u := u) hf hname hb hn he (as_ := [.d .str, .d .str]) (τ := .int .i64) rfl (fun (x : List UInt8 × List UInt8 × Unit) => cmpStrF x.1 x.2.1) ?_
  rintro ⟨s, c, _⟩ V L w Im vs h
  match vs, h with
  | [v1, v2], h =>
    obtain rfl := CR.str_inv (show CR u w Im v1 ⟨.str, s⟩ from h.1)
    obtain rfl := CR.str_inv (show CR u w Im v2 ⟨.str, c⟩ from h.2.1)
    exact ⟨_, Lib.run_compareString _ _ _, .int _ _⟩
end
end Go.Proofs.YtmppaodhihnejaaGreat.M
