/- Answers at one point: a function, or a loop, that was called at given values answers given values. -/
import Derived.Test.YtmppaodhihnejaaGreatRun
set_option linter.unusedVariables false
namespace Go.Proofs.YtmppaodhihnejaaGreat.M
open Go

section
variable {P : Program} {u : Uni} {R : Type}

/-- A function called at these values answers these. -/
def PtF (u : Uni) (P : Program) (f : FuncId) (as : List (SV u)) (os : List (Ob u)) (res : List (SV u)) (obs : List (Ob u)) : Prop :=
  ∀ (V : Nat → Value) (w : World) (Im : Nat → Prop) (vs : List Value), HR u V w Im (obsF os) → (∀ k, k < os.length → Lv u (obsF os) k) → R2 (SR u V (Lv u (obsF os)) w Im) as vs →
    Gives P f vs.toArray w (fun v w' => ∃ V' Im', Step u (fixOf V w Im os) V w Im (obsF os) V' w' Im' (obsF obs) ∧ SlR u V' (Lv u (obsF obs)) w' Im' (resSlot res) v)
/-- A loop gone into in this state ends so. -/
def PtL (P : Program) (pg : Pg u R) (f : FuncId) (m id : Nat) (s : St0 u) (e : Ex) (σ' : St u) : Prop :=
  ∀ fi c, pg.fns f = some fi → fi.fn.body = some c → ∀ c', findL id (loopsOf c) = some c' →
    ∀ (fx : Fix) V Im a w (Q : Exit → Act → World → Prop), fx.m = m → Rel fx fi.fn.ntmps V Im (stOf s) a w → (∀ a' V' Im' w', Rel fx fi.fn.ntmps V' Im' σ' a' w' → Q (exOf e) a' w') → LoopWp P c' Q a w

/-- Who answers rightly. -/
structure Good (P : Program) (pg : Pg u R) (o : Orcs u R) : Prop where
  fn : ∀ f as os kk z, o.fn f as os kk = some z → ∃ res obs, kk res obs = some z ∧ PtF u P f as os res obs ∧ ∀ kk' z', kk' res obs = some z' → o.fn f as os kk' = some z'
  lp : ∀ f m id σ K z, o.lp f m id σ K = some z → ∃ e σ', K e σ' = some z ∧ PtL P pg f m id σ e σ' ∧ ∀ K' z', K' e σ' = some z' → o.lp f m id σ K' = some z'

theorem Good.me {pg : Pg u R} {o : Orcs u R} (h : Good P pg o) : OrcsME o :=
  ⟨fun f as os kk z h1 => by obtain ⟨res, obs, g1, _, g3⟩ := h.fn f as os kk z h1; exact ⟨res, obs, g1, g3⟩,
   fun f m id σ K z h1 => by obtain ⟨e, σ', g1, _, g3⟩ := h.lp f m id σ K z h1; exact ⟨e, σ', g1, g3⟩⟩
theorem Good.orc {pg : Pg u R} {o : Orcs u R} (h : Good P pg o) : OrcOk P o.fn := by
  intro f as os K z hk V w Im vs h1 h2 h3
  obtain ⟨res, obs, g1, g2, _⟩ := h.fn f as os K z hk
  exact (g2 V w Im vs h1 h2 h3).mono fun v w' ⟨V', Im', s, hv⟩ => ⟨res, obs, V', Im', g1, s, hv⟩
theorem Good.lpOk {pg : Pg u R} {o : Orcs u R} (h : Good P pg o) {f : FuncId} {fi : FI} {c : Code} (hf : pg.fns f = some fi) (hc : fi.fn.body = some c) : LpOk P o.lp f fi.fn.ntmps (loopsOf c) := by
  intro m id σ K z hk c' hc' fx V Im a w Q hm hrel hK
  obtain ⟨e, σ', g1, g2, _⟩ := h.lp f m id σ K z hk
  exact g2 fi c hf hc c' hc' fx V Im a w Q hm hrel fun a' V' Im' w' hr => hK e σ' a' V' Im' w' g1 hr

open Classical in
/-- What a body comes to, its calls answered rightly, is right. -/
theorem Good.body {pg : Pg u R} (hp : PgOk P pg) {o : Orcs u R} (h : Good P pg o) : Good P pg ⟨bodyFn pg o, bodyLp pg o⟩ := by
  have hb := body_ok hp h.orc (fun f fi c hf hc => h.lpOk hf hc) h.me
  have hm := me_body hp.me h.me
  constructor
  · intro f as os kk z hk
    obtain ⟨res, obs, h1, h2⟩ := hm.1 f as os kk z hk
    refine ⟨res, obs, h1, fun V w Im vs g1 g2 g3 => ?_, h2⟩
    have h3 := h2 (fun r o => if r = res ∧ o = obs then some z else none) z (by simp)
    refine (hb.1 f as os _ z h3 V w Im vs g1 g2 g3).mono fun v w' ⟨res', obs', V', Im', e, s, hv⟩ => ?_
    have he : res' = res ∧ obs' = obs := by
      apply Classical.byContradiction
      intro hn
      rw [if_neg hn] at e
      cases e
    obtain ⟨rfl, rfl⟩ := he
    exact ⟨V', Im', s, hv⟩
  · intro f m id σ K z hk
    obtain ⟨e, σ', h1, h2⟩ := hm.2 f m id σ K z hk
    refine ⟨e, σ', h1, fun fi c hf hc c' hc' fx V Im a w Q hx hrel hK => ?_, h2⟩
    have h3 := h2 (fun e1 σ1 => if e1 = e ∧ σ1 = σ' then some z else none) z (by simp)
    refine hb.2 f fi c hf hc m id σ _ z h3 c' hc' fx V Im a w Q hx hrel fun e1 σ1 a' V' Im' w' hk' hr => ?_
    have he : e1 = e ∧ σ1 = σ' := by
      apply Classical.byContradiction
      intro hn
      rw [if_neg hn] at hk'
      cases hk'
    obtain ⟨rfl, rfl⟩ := he
    exact hK a' V' Im' w' hr

/-! ### Tables of answers -/
abbrev Xt (u : Uni) (R : Type) := List (SV u) → List (Ob u) → (List (SV u) → List (Ob u) → Option R) → Option R
def GoodE (P : Program) (f : FuncId) (e : Xt u R) : Prop := ∀ as os kk z, e as os kk = some z → ∃ res obs, kk res obs = some z ∧ PtF u P f as os res obs ∧ ∀ kk' z', kk' res obs = some z' → e as os kk' = some z'
/-- Who answers by a table, and else goes into the body, so many deep. -/
def tabFn (t : FuncId → Option (Xt u R)) (o : Orcs u R) : Orcs u R := ⟨fun f as os kk => match t f with
  | some e => e as os kk
  | none => o.fn f as os kk, o.lp⟩
def deep (pg : Pg u R) (t : FuncId → Option (Xt u R)) (lp : FuncId → Nat → Nat → St0 u → (Ex → St u → Option R) → Option R) : Nat → Orcs u R
  | 0 => tabFn t ⟨fun _ _ _ _ => none, lp⟩
  | n + 1 => tabFn t ⟨bodyFn pg (deep pg t lp n), lp⟩
theorem Good.tab {pg : Pg u R} {t : FuncId → Option (Xt u R)} (ht : ∀ f e, t f = some e → GoodE P f e) {o : Orcs u R} (h : Good P pg o) : Good P pg (tabFn t o) := by
  constructor
  · intro f as os kk z hk
    simp only [tabFn] at hk ⊢
    cases hf : t f with
    | some e =>
      rw [hf] at hk
      exact ht f e hf as os kk z hk
    | none =>
      rw [hf] at hk
      exact h.fn f as os kk z hk
  · exact h.lp
def GoodL (P : Program) (pg : Pg u R) (lp : FuncId → Nat → Nat → St0 u → (Ex → St u → Option R) → Option R) : Prop :=
  ∀ f m id σ K z, lp f m id σ K = some z → ∃ e σ', K e σ' = some z ∧ PtL P pg f m id σ e σ' ∧ ∀ K' z', K' e σ' = some z' → lp f m id σ K' = some z'
theorem deep_good {pg : Pg u R} (hp : PgOk P pg) {t : FuncId → Option (Xt u R)} (ht : ∀ f e, t f = some e → GoodE P f e) {lp : FuncId → Nat → Nat → St0 u → (Ex → St u → Option R) → Option R} (hl : GoodL P pg lp) : ∀ n, Good P pg (deep pg t lp n)
  | 0 => Good.tab ht ⟨fun _ _ _ _ _ h => (by cases h), hl⟩
  | n + 1 => Good.tab ht ⟨((deep_good hp ht hl n).body hp).fn, hl⟩
/-- A loop whose rounds are gone round rightly. -/
theorem bodyLp_good {pg : Pg u R} (hp : PgOk P pg) {o : Orcs u R} (h : Good P pg o) : GoodL P pg (bodyLp pg o) := (h.body hp).lp
theorem bodyFn_good {pg : Pg u R} (hp : PgOk P pg) {o : Orcs u R} (h : Good P pg o) (f : FuncId) : GoodE P f (bodyFn pg o f) := fun as os kk z hk => (h.body hp).fn f as os kk z hk
theorem GoodE.le {f : FuncId} {e e' : Xt u R} (h : GoodE P f e) (hle : ∀ as os kk z, e' as os kk = some z → e as os kk = some z) (hme : ∀ as os kk z, e' as os kk = some z → ∃ res obs, kk res obs = some z ∧ ∀ kk' z', kk' res obs = some z' → e' as os kk' = some z') : GoodE P f e' := by
  classical
  intro as os kk z hk
  obtain ⟨res, obs, h1, h2⟩ := hme as os kk z hk
  have h3 := h2 (fun r o => if r = res ∧ o = obs then some z else none) z (by simp)
  obtain ⟨res', obs', e1, hp, _⟩ := h as os _ z (hle as os _ z h3)
  have he : res' = res ∧ obs' = obs := by
    apply Classical.byContradiction
    intro hn
    rw [if_neg hn] at e1
    cases e1
  obtain ⟨rfl, rfl⟩ := he
  exact ⟨res', obs', h1, hp, h2⟩
end
end Go.Proofs.YtmppaodhihnejaaGreat.M
