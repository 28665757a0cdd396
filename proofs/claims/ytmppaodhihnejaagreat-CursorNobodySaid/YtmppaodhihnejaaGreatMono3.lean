/- The machine hands on one answer: code, functions. -/
import Derived.Test.YtmppaodhihnejaaGreatMono2
set_option linter.unusedVariables false
namespace Go.Proofs.YtmppaodhihnejaaGreat.M
open Go

section
variable {u : Uni} {R : Type}

theorem gOp_eq (ops : Array Oper) (o : Oper) (σ : St u) (p s : St u → Option R) :
    gOp ops o σ p s = match o.guard with
      | none => p σ
      | some (j, want) => match (nthO ops.toList j).bind (·.dst) with
        | some t => match rdBool (σ.sl t) with
          | some b => bif b == want then p σ else s σ
          | none => bif isUnd (σ.sl t) then s σ else none
        | none => none := by
  unfold gOp
  cases hg : o.guard with
  | none => rfl
  | some g =>
    obtain ⟨j, want⟩ := g
    simp only
    cases ht : (nthO ops.toList j).bind (·.dst) with
    | none => rfl
    | some t =>
      simp only
      cases hb : rdBool (σ.sl t) with
      | none => rfl
      | some b =>
        have e := rdBool_eq hb
        have hs : ∀ b', b' = b → σ.set t (one (cBool b')) = σ := by
          intro b' e'
          subst e'
          show ({ σ with sl := upd σ.sl t (one (cBool b')) } : St u) = σ
          rw [← e, upd_self]
        cases want <;> cases b <;> simp only [cond_true, cond_false, hs _ rfl] <;> rfl

theorem me_gOp (ops : Array Oper) (o : Oper) (σ : St u) {α : Type} {p s : St u → (α → Option R) → Option R} (hp : ∀ σ, ME (p σ)) (hs : ∀ σ, ME (s σ)) : ME (fun K => gOp ops o σ (fun σ => p σ K) (fun σ => s σ K)) := by
  intro kk z h
  have h : gOp ops o σ (fun σ => p σ kk) (fun σ => s σ kk) = some z := h
  rw [gOp_eq] at h
  split at h
  · rename_i hg
    obtain ⟨x, h1, h2⟩ := hp σ kk z h
    exact ⟨x, h1, fun kk' z' h' => by show gOp ops o σ _ _ = _; rw [gOp_eq, hg]; exact h2 kk' z' h'⟩
  · rename_i j want hg
    split at h
    · rename_i t ht
      split at h
      · rename_i b hb
        cases hc : (b == want) with
        | true =>
          rw [hc] at h
          obtain ⟨x, h1, h2⟩ := hp σ kk z h
          exact ⟨x, h1, fun kk' z' h' => by show gOp ops o σ _ _ = _; rw [gOp_eq, hg]; simp only [ht, hb, hc]; exact h2 kk' z' h'⟩
        | false =>
          rw [hc] at h
          obtain ⟨x, h1, h2⟩ := hs σ kk z h
          exact ⟨x, h1, fun kk' z' h' => by show gOp ops o σ _ _ = _; rw [gOp_eq, hg]; simp only [ht, hb, hc]; exact h2 kk' z' h'⟩
      · rename_i hb
        cases hu : isUnd (σ.sl t) with
        | false => rw [hu] at h; cases h
        | true =>
          rw [hu] at h
          obtain ⟨x, h1, h2⟩ := hs σ kk z h
          exact ⟨x, h1, fun kk' z' h' => by show gOp ops o σ _ _ = _; rw [gOp_eq, hg]; simp only [ht, hb, hu]; exact h2 kk' z' h'⟩
    · cases h
theorem findK_get {lk : Nat → Ob u} {k : Nat → Option R} {z : R} : ∀ {n d : Nat}, findK lk k n d = some z → ∃ d', k d' = some z ∧ ∀ (k' : Nat → Option R) (z' : R), k' d' = some z' → findK lk k' n d = some z'
  | n + 1, d, h => by
    simp only [findK] at h
    split at h
    · rename_i hf
      exact ⟨d, h, fun k' z' h' => by simp only [findK, hf]; exact h'⟩
    · rename_i hf
      obtain ⟨d', h1, h2⟩ := findK_get h
      refine ⟨d', h1, fun k' z' h' => ?_⟩
      simp only [findK]
      exact h2 k' z' h'
theorem withK_get {op : Op} {lk : Nat → Ob u} {d : Nat} {k : Nat → Option R} {z : R} (h : withK op lk d k = some z) : ∃ d', k d' = some z ∧ ∀ (k' : Nat → Option R) (z' : R), k' d' = some z' → withK op lk d k' = some z' := by
  unfold withK at h
  cases hu : usesK op with
  | true =>
    rw [hu, cond_true] at h
    obtain ⟨d', h1, h2⟩ := findK_get h
    exact ⟨d', h1, fun k' z' h' => by unfold withK; rw [hu, cond_true]; exact h2 k' z' h'⟩
  | false =>
    rw [hu, cond_false] at h
    exact ⟨d, h, fun k' z' h' => by unfold withK; rw [hu, cond_false]; exact h'⟩
theorem me_opK {cx : Cx u R} (ho : OrcsME cx.o) (o : Oper) (σ : St u) : ME (opK cx o σ) := by
  intro kk z h
  obtain ⟨dk, h0, h3⟩ := withK_get h
  obtain ⟨v, us, h1, h2⟩ := me_sem ho _ _ _ _ _ z h0
  exact ⟨_, h1, fun kk' z' h' => h3 _ z' (h2 _ z' h')⟩
theorem ME.bind {α β : Type} {F : (α → Option R) → Option R} {G : α → (β → Option R) → Option R} (hF : ME F) (hG : ∀ x, ME (G x)) : ME (fun K => F fun x => G x K) := by
  intro kk z h
  obtain ⟨x, h1, h2⟩ := hF _ z h
  obtain ⟨y, h3, h4⟩ := hG x kk z h1
  exact ⟨y, h3, fun kk' z' h' => h2 _ z' (h4 kk' z' h')⟩
theorem ME.id {α : Type} (x : α) : ME (fun K : α → Option R => K x) := fun kk z h => ⟨x, h, fun _ _ h' => h'⟩
theorem me_execIx {cx : Cx u R} (ho : OrcsME cx.o) (ops : Array Oper) : ∀ (l : List Nat) (σ : St u), ME (execIx cx ops l σ)
  | [], σ => ME.id σ
  | i :: l, σ => by
    intro kk z h
    simp only [execIx] at h
    split at h
    · rename_i o ho'
      obtain ⟨x, h1, h2⟩ := me_gOp ops o σ (p := fun σ K => opK cx o σ fun σ' => execIx cx ops l σ' K) (s := fun σ K => execIx cx ops l (σ.put o.dst .und) K)
        (fun σ => ME.bind (me_opK ho o σ) (fun σ' => me_execIx ho ops l σ')) (fun σ => me_execIx ho ops l _) kk z h
      exact ⟨x, h1, fun kk' z' h' => by simp only [execIx, ho']; exact h2 kk' z' h'⟩
    · rename_i ho'
      obtain ⟨x, h1, h2⟩ := me_execIx ho ops l σ kk z h
      exact ⟨x, h1, fun kk' z' h' => by simp only [execIx, ho']; exact h2 kk' z' h'⟩
theorem me_gOp2 (ops : Array Oper) (o : Oper) (σ : St u) {α β : Type} {p s : St u → (α → β → Option R) → Option R} (hp : ∀ σ, ME2 (p σ)) (hs : ∀ σ, ME2 (s σ)) : ME2 (fun K => gOp ops o σ (fun σ => p σ K) (fun σ => s σ K)) := by
  intro kk z h
  have h : gOp ops o σ (fun σ => p σ kk) (fun σ => s σ kk) = some z := h
  rw [gOp_eq] at h
  split at h
  · rename_i hg
    obtain ⟨x, y, h1, h2⟩ := hp σ kk z h
    exact ⟨x, y, h1, fun kk' z' h' => by show gOp ops o σ _ _ = _; rw [gOp_eq, hg]; exact h2 kk' z' h'⟩
  · rename_i j want hg
    split at h
    · rename_i t ht
      split at h
      · rename_i b hb
        cases hc : (b == want) with
        | true =>
          rw [hc] at h
          obtain ⟨x, y, h1, h2⟩ := hp σ kk z h
          exact ⟨x, y, h1, fun kk' z' h' => by show gOp ops o σ _ _ = _; rw [gOp_eq, hg]; simp only [ht, hb, hc]; exact h2 kk' z' h'⟩
        | false =>
          rw [hc] at h
          obtain ⟨x, y, h1, h2⟩ := hs σ kk z h
          exact ⟨x, y, h1, fun kk' z' h' => by show gOp ops o σ _ _ = _; rw [gOp_eq, hg]; simp only [ht, hb, hc]; exact h2 kk' z' h'⟩
      · rename_i hb
        cases hu : isUnd (σ.sl t) with
        | false => rw [hu] at h; cases h
        | true =>
          rw [hu] at h
          obtain ⟨x, y, h1, h2⟩ := hs σ kk z h
          exact ⟨x, y, h1, fun kk' z' h' => by show gOp ops o σ _ _ = _; rw [gOp_eq, hg]; simp only [ht, hb, hu]; exact h2 kk' z' h'⟩
    · cases h
theorem me_stepL {cx : Cx u R} (ho : OrcsME cx.o) (ops : Array Oper) (ms : List Nat) (i : Nat) (log : List LE) (σ : St u) : ME2 (stepL cx ops ms i log σ) := by
  intro kk z h
  unfold stepL at h
  split at h
  · rename_i o ho'
    obtain ⟨x, y, h1, h2⟩ := me_gOp2 ops o σ
      (p := fun σ (K : List LE → St u → Option R) => withK o.op σ.ob (dkOf o.dst) fun dk => sem cx σ.ev σ.ob dk o.op fun v us => bif logOk (nthM ms i) (entry cx.sg i o.op σ.ev us) log then K (entry cx.sg i o.op σ.ev us :: log) ((σ.obs us).put o.dst v) else none)
      (s := fun σ K => K (skipped i :: log) (σ.put o.dst .und))
      (fun σ kk z h => by
        obtain ⟨dk, h0, h3⟩ := withK_get h
        obtain ⟨v, us, g1, g2⟩ := me_sem ho _ _ _ _ _ z h0
        cases hc : logOk (nthM ms i) (entry cx.sg i o.op σ.ev us) log with
        | false => rw [hc] at g1; cases g1
        | true =>
          rw [hc, cond_true] at g1
          exact ⟨_, _, g1, fun kk' z' h' => h3 _ z' (g2 _ z' (by rw [hc]; exact h'))⟩)
      (fun σ kk z h => ⟨_, _, h, fun _ _ h' => h'⟩) kk z h
    exact ⟨x, y, h1, fun kk' z' h' => by unfold stepL; rw [ho']; exact h2 kk' z' h'⟩
  · cases h
theorem me_execDy {cx : Cx u R} (ho : OrcsME cx.o) (ops : Array Oper) (ms : List Nat) : ∀ (l : List Nat) (log : List LE) (σ : St u), ME (execDy cx ops ms l log σ)
  | [], log, σ => ME.id σ
  | i :: l, log, σ => by
    intro kk z h
    obtain ⟨lg, σ1, h1, h2⟩ := me_stepL ho ops ms i log σ _ z h
    obtain ⟨x, h3, h4⟩ := me_execDy ho ops ms l lg σ1 kk z h1
    exact ⟨x, h3, fun kk' z' h' => h2 _ z' (h4 kk' z' h')⟩

theorem me_exec {cx : Cx u R} (ho : OrcsME cx.o) (f : FuncId) (hn : Hn) (m : Nat) : ∀ (c : Code) (σ : St u), ME2 (fun K => exec cx f hn m c K σ) := by
  intro c
  induction c with
  | skip => intro σ kk z h; exact ⟨_, _, h, fun _ _ h' => h'⟩
  | exit id => intro σ kk z h; exact ⟨_, _, h, fun _ _ h' => h'⟩
  | ret => intro σ kk z h; exact ⟨_, _, h, fun _ _ h' => h'⟩
  | region id ops d =>
    intro σ kk z h
    cases d with
    | false =>
      obtain ⟨x, h1, h2⟩ := me_execIx ho ops _ σ _ z h
      exact ⟨_, x, h1, fun kk' z' h' => h2 _ z' h'⟩
    | true =>
      obtain ⟨x, h1, h2⟩ := me_execDy ho ops _ _ [] σ _ z h
      exact ⟨_, x, h1, fun kk' z' h' => h2 _ z' h'⟩
  | seq x y ihx ihy =>
    intro σ kk z h
    simp only [exec] at h
    obtain ⟨e, σ1, h1, h2⟩ := ihx σ _ z h
    cases e with
    | normal =>
      obtain ⟨e2, σ2, h3, h4⟩ := ihy σ1 _ z h1
      exact ⟨e2, σ2, h3, fun kk' z' h' => by simp only [exec]; exact h2 _ z' (h4 kk' z' h')⟩
    | exit id => exact ⟨_, _, h1, fun kk' z' h' => by simp only [exec]; exact h2 _ z' h'⟩
    | ret => exact ⟨_, _, h1, fun kk' z' h' => by simp only [exec]; exact h2 _ z' h'⟩
  | cond c x y ihx ihy =>
    intro σ kk z h
    cases c with
    | tmp s =>
      simp only [exec] at h
      split at h
      · rename_i t ht
        cases t with
        | true =>
          obtain ⟨e, σ1, h1, h2⟩ := ihx _ kk z h
          exact ⟨e, σ1, h1, fun kk' z' h' => by simp only [exec, ht]; exact h2 kk' z' h'⟩
        | false =>
          obtain ⟨e, σ1, h1, h2⟩ := ihy _ kk z h
          exact ⟨e, σ1, h1, fun kk' z' h' => by simp only [exec, ht]; exact h2 kk' z' h'⟩
      · cases h
    | const v =>
      cases v <;> simp only [exec] at h <;> try (cases h; done)
      rename_i t
      cases t with
      | true =>
        obtain ⟨e, σ1, h1, h2⟩ := ihx σ kk z h
        exact ⟨e, σ1, h1, fun kk' z' h' => by simp only [exec]; exact h2 kk' z' h'⟩
      | false =>
        obtain ⟨e, σ1, h1, h2⟩ := ihy σ kk z h
        exact ⟨e, σ1, h1, fun kk' z' h' => by simp only [exec]; exact h2 kk' z' h'⟩
    | _ => simp only [exec] at h; cases h
  | block id c ih =>
    intro σ kk z h
    simp only [exec] at h
    obtain ⟨e, σ1, h1, h2⟩ := ih σ _ z h
    cases e with
    | normal => exact ⟨_, _, h1, fun kk' z' h' => by simp only [exec]; exact h2 _ z' h'⟩
    | exit i =>
      simp only at h1
      cases hb : Nat.beq i id with
      | true =>
        rw [hb] at h1
        exact ⟨_, _, h1, fun kk' z' h' => by simp only [exec]; refine h2 _ z' ?_; simp only; rw [hb]; exact h'⟩
      | false =>
        rw [hb] at h1
        exact ⟨_, _, h1, fun kk' z' h' => by simp only [exec]; refine h2 _ z' ?_; simp only; rw [hb]; exact h'⟩
    | ret => exact ⟨_, _, h1, fun kk' z' h' => by simp only [exec]; exact h2 _ z' h'⟩
  | loop c ih =>
    intro σ kk z h
    simp only [exec] at h
    split at h
    · rename_i n hm
      have key : ∀ n σ, ME2 (fun K => unrollF (fun K' σ' => exec cx f hn m c K' σ') K n σ) := by
        intro n
        induction n with
        | zero => intro σ kk z h; cases h
        | succ n ihn =>
          intro σ kk z h
          obtain ⟨e, σ1, h1, h2⟩ := ih σ _ z h
          cases e with
          | normal =>
            obtain ⟨e2, σ2, h3, h4⟩ := ihn σ1 kk z h1
            exact ⟨e2, σ2, h3, fun kk' z' h' => h2 _ z' (h4 kk' z' h')⟩
          | exit id => exact ⟨_, _, h1, fun kk' z' h' => h2 _ z' h'⟩
          | ret => exact ⟨_, _, h1, fun kk' z' h' => h2 _ z' h'⟩
      obtain ⟨e, σ1, h1, h2⟩ := key n σ kk z h
      exact ⟨e, σ1, h1, fun kk' z' h' => by simp only [exec, hm]; exact h2 kk' z' h'⟩
    · rename_i hd ex rt hm
      split at h
      · rename_i σ' hno
        obtain ⟨e, σ1, h1, h2⟩ := ho.2 f m (loopId c) σ' kk z h
        exact ⟨e, σ1, h1, fun kk' z' h' => by simp only [exec, hm, hno]; exact h2 kk' z' h'⟩
      · cases h
    · cases h
  | _ => intro σ kk z h; simp only [exec] at h; cases h

theorem me_retK (T : TypeId → Option (TI u)) (sg : Option Sig) (fn : Func) (m : Nat) (σ : St u) : ME2 (fun kk => retK (R := R) T sg fn m kk σ) := by
  intro kk z h
  have h : retK T sg fn m kk σ = some z := h
  unfold retK at h
  split at h
  · rename_i rs hrs
    split at h
    · rename_i rs1 us h1
      simp only at h
      split at h
      · rename_i us2 h2
        split at h
        · rename_i ks hks
          cases hb : (isPre 0 m ks && (nodupN ks && allLive (upds (upds σ.ob us) us2) ks)) with
          | false => rw [hb] at h; cases h
          | true =>
            rw [hb, cond_true] at h
            split at h
            · rename_i as os has hos
              exact ⟨_, _, h, fun kk' z' h' => by show retK T sg fn m kk' σ = _; unfold retK; simp only [hrs, h1, h2, hks, hb, cond_true, has, hos]; exact h'⟩
            · cases h
        · cases h
      · cases h
    · cases h
  · cases h

theorem me_body {pg : Pg u R} (hx : ∀ f e, pg.ext f = some e → ∀ as os, ME2 (e as os)) {o : Orcs u R} (ih : OrcsME o) : OrcsME (⟨bodyFn pg o, bodyLp pg o⟩ : Orcs u R) := by
    constructor
    · intro f as os kk z h
      simp only [bodyFn] at h
      split at h
      · rename_i e he
        obtain ⟨x, y, h1, h2⟩ := hx f e he as os kk z h
        exact ⟨x, y, h1, fun kk' z' h' => by simp only [bodyFn, he]; exact h2 kk' z' h'⟩
      · rename_i he
        split at h
        · rename_i fi hfi
          split at h
          · rename_i c hc
            cases hb : (Nat.ble as.length fi.fn.ntmps) with
            | false => rw [hb] at h; cases h
            | true =>
              rw [hb, cond_true] at h
              obtain ⟨e, σ1, h1, h2⟩ := me_exec (cx := ⟨pg.T, o, pg.sg⟩) ih f fi.hn os.length c _ _ z h
              have fin : retK pg.T (pg.sg f) fi.fn os.length kk σ1 = some z →
                  (∀ kk' z', retK pg.T (pg.sg f) fi.fn os.length kk' σ1 = some z' → bodyFn pg o f as os kk' = some z') → ∃ x y, kk x y = some z ∧ ∀ kk' z', kk' x y = some z' → bodyFn pg o f as os kk' = some z' := by
                intro hr h2
                obtain ⟨x, y, h3, h4⟩ := me_retK pg.T (pg.sg f) fi.fn os.length σ1 kk z hr
                exact ⟨x, y, h3, fun kk' z' h' => h2 _ z' (h4 kk' z' h')⟩
              cases e with
              | normal => exact fin h1 (fun kk' z' h' => by simp only [bodyFn, he, hfi, hc, hb, cond_true]; exact h2 _ z' h')
              | exit id => cases h1
              | ret => exact fin h1 (fun kk' z' h' => by simp only [bodyFn, he, hfi, hc, hb, cond_true]; exact h2 _ z' h')
          · cases h
        · cases h
    · intro f m id σ kk z h
      simp only [bodyLp] at h
      split at h
      · rename_i fi hfi
        split at h
        · rename_i c hd ex rt hc hl
          split at h
          · rename_i c' hc'
            have key : ∀ K, bodyLp pg o f m id σ K = round ⟨pg.T, o, pg.sg⟩ f fi.hn m id c' hd ex rt σ K := by
              intro K
              simp only [bodyLp, hfi, hc, hl, hc']
            unfold round at h
            obtain ⟨e, σ1, h1, h2⟩ := me_exec (cx := ⟨pg.T, o, pg.sg⟩) ih f fi.hn m c' (stOf σ) _ z h
            cases e with
            | normal =>
              simp only at h1
              split at h1
              · rename_i σ2 hno
                obtain ⟨e2, σ3, h3, h4⟩ := ih.2 f m id σ2 kk z h1
                exact ⟨e2, σ3, h3, fun kk' z' h' => by show bodyLp pg o f m id σ kk' = _; rw [key]; unfold round; refine h2 _ z' ?_; simp only [hno]; exact h4 kk' z' h'⟩
              · cases h1
            | exit i =>
              simp only at h1
              split at h1
              · rename_i x hx'
                split at h1
                · rename_i σ2 hno
                  exact ⟨_, _, h1, fun kk' z' h' => by show bodyLp pg o f m id σ kk' = _; rw [key]; unfold round; refine h2 _ z' ?_; simp only [hx', hno]; exact h'⟩
                · cases h1
              · cases h1
            | ret =>
              simp only at h1
              split at h1
              · rename_i x
                split at h1
                · rename_i σ2 hno
                  exact ⟨_, _, h1, fun kk' z' h' => by show bodyLp pg o f m id σ kk' = _; rw [key]; unfold round; refine h2 _ z' ?_; simp only [hno]; exact h'⟩
                · cases h1
              · cases h1
          · cases h
        · cases h
      · cases h
theorem me_run {pg : Pg u R} (hx : ∀ f e, pg.ext f = some e → ∀ as os, ME2 (e as os)) : ∀ n, OrcsME (run pg n)
  | 0 => by
    constructor
    · intro f as os kk z h; cases h
    · intro f m id σ kk z h; cases h
  | n + 1 => me_body hx (me_run hx n)
end
end Go.Proofs.YtmppaodhihnejaaGreat.M
