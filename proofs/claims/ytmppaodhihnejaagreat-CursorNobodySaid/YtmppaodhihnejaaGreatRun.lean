/- Functions. -/
import Derived.Test.YtmppaodhihnejaaGreatExec2
set_option linter.unusedVariables false
namespace Go.Proofs.YtmppaodhihnejaaGreat.M
open Go

section
variable {P : Program} {u : Uni} {R : Type} {fx : Fix} {nt : Nat} {V : Nat → Value} {Im : Nat → Prop} {σ : St u} {a : Act} {w : World}

theorem obsAt_eq : ∀ (os : List (Ob u)), obsAt os = obsF os
  | [] => by funext k; simp [obsAt, obsF]
  | o :: r => by
    funext k
    cases k with
    | zero => rfl
    | succ k =>
      show obsAt r k = _
      rw [obsAt_eq r]
      simp [obsF]
theorem slotsAt_ok {L : Nat → Prop} : ∀ {as : List (SV u)} {vs : List Value} (h : R2 (SR u V L w Im) as vs) (n i : Nat), SlR u V L w Im (slotsAt as i) ((vs.toArray ++ Array.replicate n undef).getD i undef)
  | [], [], _, n, i => trivial
  | [], _ :: _, h, _, _ => h.elim
  | _ :: _, [], h, _, _ => h.elim
  | a :: as, v :: vs, h, n, 0 => by
    show SR u V L w Im a _
    have e : ((v :: vs).toArray ++ Array.replicate n undef).getD 0 undef = v := by
      simp [Array.getD_eq_getD_getElem?, Array.getElem?_append]
    rw [e]
    exact h.1
  | a :: as, v :: vs, h, n, i + 1 => by
    have := slotsAt_ok h.2 n i
    show SlR u V L w Im (slotsAt as i) _
    have e : ((v :: vs).toArray ++ Array.replicate n undef).getD (i + 1) undef = (vs.toArray ++ Array.replicate n undef).getD i undef := by
      simp [Array.getD_eq_getD_getElem?, Array.getElem?_append]
    rw [e]
    exact this

theorem resOf_ok {T : TypeId → Option (TI u)} (hT : TOk P T) {g : ResultVar → Sem Value} (hg : ∀ t, g (.tmp t) = pure (a.tmps.getD t undef)) (hg' : ∀ t ty, g (.cell t ty) = (do loadVar ty (← asAddr (a.tmps.getD t undef)))) (h : Rel fx nt V Im σ a w) :
    ∀ {l : List ResultVar} {rs : List (SV u)}, resOf T σ l = some rs → ∃ vs, (l.mapM g).run P w = .ok vs w ∧ R2 (SR u V (Lv u σ.ob) w Im) rs vs
  | [], rs, hx => by
    cases hx
    exact ⟨[], rfl, trivial⟩
  | .tmp t :: l, rs, hx => by
    simp only [resOf] at hx
    split at hx
    · rename_i x hs
      split at hx
      · rename_i rs' hr
        cases hx
        obtain ⟨vs, h1, h2⟩ := resOf_ok hT hg hg' h hr
        have h3 := h.sl t
        rw [hs] at h3
        exact ⟨_ :: vs, by simp [List.mapM_cons, hg, h1], h3, h2⟩
      · cases hx
    · cases hx
  | .cell t ty :: l, rs, hx => by
    simp only [resOf] at hx
    split at hx
    · rename_i x hs
      split at hx
      · rename_i y hl
        split at hx
        · rename_i rs' hr
          cases hx
          obtain ⟨vs, h1, h2⟩ := resOf_ok hT hg hg' h hr
          have h3 := h.sl t
          rw [hs] at h3
          obtain ⟨r, v, g1, g2, g3⟩ := ldOp_ok hT h.hr h3 hl
          cases g2
          have e : (do loadVar ty (← asAddr (a.tmps.getD t undef)) : Sem Value).run P w = .ok v w := by
            cases hv : a.tmps.getD t undef with
            | pointer o =>
              cases o with
              | some ad =>
                rw [hv] at g1
                simpa [Instr.loadAt, Instr.sureAddr, asAddr] using g1
              | none => rw [hv] at g1; simp [Instr.loadAt, Instr.sureAddr] at g1
            | _ => rw [hv] at g1; simp [Instr.loadAt, Instr.sureAddr] at g1
          exact ⟨v :: vs, by rw [List.mapM_cons, hg', Sem.run_bind, e]; simp [Result.andThen, h1], g3, h2⟩
        · cases hx
      · cases hx
    · cases hx

def resVal : List Value → Value
  | [v] => v
  | l => .tuple l.toArray
theorem resSlot_ok {L : Nat → Prop} : ∀ {rs : List (SV u)} {vs : List Value}, R2 (SR u V L w Im) rs vs → SlR u V L w Im (resSlot rs) (resVal vs)
  | [], [], h => ⟨[], rfl, h⟩
  | [x], [v], h => h.1
  | x :: y :: rs, v :: v' :: vs, h => ⟨_, rfl, h⟩
  | [], _ :: _, h => h.elim
  | _ :: _, [], h => h.elim
  | [x], _ :: _ :: _, h => h.2.elim
  | _ :: _ :: _, [v], h => h.2.elim
theorem results_run {fn : Func} {tmps : Array Value} {g : ResultVar → Sem Value} (hg : results fn tmps = (do let vs ← fn.results.mapM g; pure (if h : vs.size = 1 then vs[0] else .tuple vs))) {vs : List Value} (h : (fn.results.toList.mapM g).run P w = .ok vs w) :
    (results fn tmps).run P w = .ok (resVal vs) w := by
  rw [hg, Array.mapM_eq_mapM_toList]
  simp only [Sem.run_bind, Sem.run_map, h, Result.andThen]
  match vs with
  | [] => rfl
  | [v] => rfl
  | _ :: _ :: _ => rfl

theorem isPre_get : ∀ {m i : Nat} {ks : List Nat}, isPre i m ks = true → ∀ k, k < m → ks[k]? = some (i + k)
  | 0, _, _, _, k, hk => by omega
  | m + 1, i, [], h, k, hk => by cases h
  | m + 1, i, x :: r, h, k, hk => by
    simp only [isPre, Bool.and_eq_true] at h
    cases k with
    | zero => simp [Nat.eq_of_beq_eq_true h.1]
    | succ k =>
      have := isPre_get h.2 k (by omega)
      simp only [List.getElem?_cons_succ, this]
      congr 1
      omega

/-- The end of a function. -/
theorem retK_ok {V0 : Nat → Value} {w0 : World} {Im0 : Nat → Prop} {os : List (Ob u)} (hr0 : HR u V0 w0 Im0 (obsF os)) {T : TypeId → Option (TI u)} (hT : TOk P T) (h : Rel (fixOf V0 w0 Im0 os) nt V Im σ a w) {sg : Option Sig} {fn : Func} {kk : List (SV u) → List (Ob u) → Option R} {z : R}
    (hk : retK T sg fn os.length kk σ = some z) : ∃ v, (results fn a.tmps).run P w = .ok v w ∧
      ∃ res obs V' Im', kk res obs = some z ∧ Step u (fixOf V0 w0 Im0 os) V0 w0 Im0 (obsF os) V' w Im' (obsF obs) ∧ SlR u V' (Lv u (obsF obs)) w Im' (resSlot res) v := by
  unfold retK at hk
  split at hk
  · rename_i rs hrs
    obtain ⟨vs, hrun, hvs⟩ := resOf_ok (P := P) hT (g := fun x => match x with | .tmp t => pure (a.tmps.getD t undef) | .cell t ty => do loadVar ty (← asAddr (a.tmps.getD t undef))) (fun _ => rfl) (fun _ _ => rfl) h hrs
    split at hk
    · rename_i rs1 us h1
      obtain ⟨V1, Im1, s1, hvs1⟩ := coerceSs_ok h.inv hvs h1
      simp only at hk
      split at hk
      · rename_i us2 h2
        obtain ⟨V2, Im2, s2⟩ := coerceC_ok s1.inv h2
        split at hk
        · rename_i ks hks
          cases hb : (isPre 0 os.length ks && (nodupN ks && allLive (upds (upds σ.ob us) us2) ks)) with
          | false => rw [hb] at hk; cases hk
          | true =>
            rw [hb, cond_true] at hk
            rw [Bool.and_eq_true, Bool.and_eq_true] at hb
            obtain ⟨hpre, hnd, hlv⟩ := hb
            split at hk
            · rename_i as obs has hobs
              generalize hob3 : upds (upds σ.ob us) us2 = ob3 at *
              have s2' : Step u (fixOf V0 w0 Im0 os) V1 w Im1 (upds σ.ob us) V2 w Im2 ob3 := hob3 ▸ s2
              obtain ⟨hρ, hrc, hplc, hol⟩ := s2'.inv.hr.lend hnd hlv hobs
              refine ⟨resVal vs, results_run rfl hrun, as, obs, _, Im2, hk, ⟨⟨fun k hk' => ?_, fun b hb => ?_, fun b hb => ?_⟩, hrc, ?_⟩, ?_⟩
              · have hkm : k < os.length := by
                  apply Classical.byContradiction
                  intro hn
                  exact Lv_iff.1 hk' (obsF_none (List.getElem?_eq_none (by omega)))
                have hpk := isPre_get hpre k hkm
                rw [Nat.zero_add] at hpk
                have hkeys := s2'.inv.fr.keys k hkm
                obtain ⟨o, ho, hro⟩ := (renObs_get hobs).2 k k hpk
                refine ⟨Lv_iff.2 (by rw [obsF_get ho]; exact fun e => Lv_iff.1 hkeys.1 ((renOb_fresh hro).1 e)), ?_⟩
                simp only [hpk]
                exact hkeys.2
              · exact s2'.inv.fr.imUp b hb
              · refine s2'.inv.fr.block b (hr0.imLt b hb) (fun o hO => ?_)
                obtain ⟨k, hk'⟩ := hO
                exact hr0.notIm k _ hk' hb
              · have f := s2'.inv.fr
                refine ⟨f.os, f.tape, f.output, f.size, f.block, f.cell, f.imUp, f.imIn, fun p q hq => ?_, fun k hkm => ?_⟩
                · cases hp : ks[p]? with
                  | none =>
                    rw [obsF_none (by rw [List.getElem?_eq_none_iff] at hp ⊢; omega)] at hq
                    cases hq
                  | some k =>
                    have hq : plc (obsF obs p) (match ks[p]? with | some k => V2 k | none => Value.nilFunc) = some q := hq
                    rw [hp] at hq
                    exact f.ownIn k q (by rw [← hplc p k hp]; exact hq)
                · have hkm' : k < os.length := hkm
                  have hpk := isPre_get hpre k hkm'
                  rw [Nat.zero_add] at hpk
                  have hkeys := f.keys k hkm
                  obtain ⟨o, ho, hro⟩ := (renObs_get hobs).2 k k hpk
                  refine ⟨Lv_iff.2 (by rw [obsF_get ho]; exact fun e => Lv_iff.1 hkeys.1 ((renOb_fresh hro).1 e)), ?_⟩
                  simp only [hpk]
                  exact hkeys.2
              · exact resSlot_ok (renSs_ok hρ has (hvs1.mono fun _ _ => SR.ext s2'.ext))
            · cases hk
        · cases hk
      · cases hk
    · cases hk
  · cases hk

/-- What is asked of a program's tables. -/
structure PgOk (P : Program) (pg : Pg u R) : Prop where
  T : TOk P pg.T
  fns : ∀ f fi, pg.fns f = some fi → P.funcs[f]? = some fi.fn
  code : ∀ f fi c, pg.fns f = some fi → fi.fn.body = some c → codeIn fi.fn.ntmps c = true ∧ drawsIn c = true ∧ (∀ l ∈ loopsOf c, findL (loopId l) (loopsOf c) = some l) ∧ (∀ vs w, (callFunc f vs).run P w = .ok (.enter f vs) w)
  ext : ∀ f e, pg.ext f = some e → OrcOk P (fun f' as os K => bif Nat.beq f f' then e as os K else none)
  me : ∀ f e, pg.ext f = some e → ∀ as os, ME2 (e as os)

theorem body_ok {pg : Pg u R} (hp : PgOk P pg) {o : Orcs u R} (ih1 : OrcOk P o.fn) (ih2 : ∀ f fi c, pg.fns f = some fi → fi.fn.body = some c → LpOk P o.lp f fi.fn.ntmps (loopsOf c)) (ihm : OrcsME o) :
    OrcOk P (bodyFn pg o) ∧ ∀ f fi c, pg.fns f = some fi → fi.fn.body = some c → LpOk P (bodyLp pg o) f fi.fn.ntmps (loopsOf c) := by
    constructor
    · intro f as os K z hk V w Im vs hr hlv hargs
      simp only [bodyFn] at hk
      split at hk
      · rename_i e he
        exact hp.ext f e he f as os K z (by show (bif Nat.beq f f then e as os K else none) = some z; rw [show Nat.beq f f = true from Nat.beq_refl f]; exact hk) V w Im vs hr hlv hargs
      · split at hk
        · rename_i fi hfi
          split at hk
          · rename_i c hc
            cases hb : (Nat.ble as.length fi.fn.ntmps) with
            | false => rw [hb] at hk; cases hk
            | true =>
              rw [hb, cond_true] at hk
              have hle := Nat.le_of_ble_eq_true hb
              obtain ⟨h1, hdr, h2, h3⟩ := hp.code f fi c hfi hc
              refine .inl ⟨h3 _ _, calls_of_wp (hp.fns f fi hfi) hc ?_⟩
              have hlen := hargs.length
              have hrel : Rel (fixOf V w Im os) fi.fn.ntmps V Im ⟨slotsAt as, obsAt os⟩ { tmps := vs.toArray ++ Array.replicate (fi.fn.ntmps - vs.toArray.size) undef, defers := [] } w := by
                refine ⟨by rw [obsAt_eq]; exact hr, by rw [obsAt_eq]; exact Fr.start hlv, fun i => ?_, by simp; omega, rfl⟩
                show SlR u V (Lv u (obsAt os)) w Im (slotsAt as i) _
                rw [obsAt_eq]
                exact slotsAt_ok hargs _ i
              refine exec_ok (cx := ⟨pg.T, o, pg.sg⟩) hp.T ih1 ihm (ih2 f fi c hfi hc) (fx := fixOf V w Im os) (m := os.length) rfl c h1 hdr h2 hrel (fun e σ' a' V' Im' w' hk' h' => ?_) hk
              have fin : retK pg.T (pg.sg f) fi.fn os.length K σ' = some z → a'.defers = [] ∧ ∃ v, (results fi.fn a'.tmps).run P w' = .ok v w' ∧ ∃ v', Ending.returned v = .returned v' ∧ ∃ res obs V2 Im2, K res obs = some z ∧ Step u (fixOf V w Im os) V w Im (obsF os) V2 w' Im2 (obsF obs) ∧ SlR u V2 (Lv u (obsF obs)) w' Im2 (resSlot res) v' := by
                intro hret
                obtain ⟨v, g1, g2⟩ := retK_ok hr hp.T h' hret
                exact ⟨h'.df, v, g1, v, rfl, g2⟩
              cases e with
              | normal => exact fin hk'
              | exit id => cases hk'
              | ret => exact fin hk'
          · cases hk
        · cases hk
    · intro f fi c hfi hc m id σ K z hk c' hc' fx V Im a w Q hm hrel hK
      simp only [bodyLp, hfi, hc] at hk
      split at hk
      · rename_i c0 hd ex rt hc0 hloop
        cases hc0
        have : findLoop id c = some c' := hc'
        rw [this] at hk
        simp only at hk
        obtain ⟨h1, hdr, h2, h3⟩ := hp.code f fi c hfi hc
        unfold round at hk
        refine LoopWp.round ?_
        have hin : ∀ (id : Nat) (ls : List Code) (c' : Code), findL id ls = some c' → c' ∈ ls := by
          intro id ls
          induction ls with
          | nil => intro c' h; cases h
          | cons x r ih =>
            intro c' h
            simp only [findL] at h
            cases hb : Nat.beq (loopId x) id with
            | true => rw [hb] at h; cases h; exact .head _
            | false => rw [hb] at h; exact .tail _ (ih c' h)
        have hsub2 : drawsIn c' = true := by
          have hall : ∀ (c : Code), drawsIn c = true → ∀ c' ∈ loopsOf c, drawsIn c' = true := by
            intro c
            induction c with
            | seq x y ihx ihy =>
              intro h c' hc'
              simp only [drawsIn, Bool.and_eq_true] at h
              simp only [loopsOf, List.mem_append] at hc'
              rcases hc' with hc' | hc'
              · exact ihx h.1 c' hc'
              · exact ihy h.2 c' hc'
            | cond o x y ihx ihy =>
              intro h c' hc'
              simp only [drawsIn, Bool.and_eq_true] at h
              simp only [loopsOf, List.mem_append] at hc'
              rcases hc' with hc' | hc'
              · exact ihx h.1 c' hc'
              · exact ihy h.2 c' hc'
            | block id x ih => intro h c' hc'; exact ih h c' hc'
            | loop x ih =>
              intro h c' hc'
              simp only [loopsOf, List.mem_cons] at hc'
              rcases hc' with rfl | hc'
              · exact h
              · exact ih h c' hc'
            | _ => intro h c' hc'; simp [loopsOf] at hc'
          exact hall c hdr c' (hin id _ c' hc')
        have hsub : codeIn fi.fn.ntmps c' = true ∧ ∀ l ∈ loopsOf c', l ∈ loopsOf c := by
          have hin : ∀ (id : Nat) (ls : List Code) (c' : Code), findL id ls = some c' → c' ∈ ls := by
            intro id ls
            induction ls with
            | nil => intro c' h; cases h
            | cons x r ih =>
              intro c' h
              simp only [findL] at h
              cases hb : Nat.beq (loopId x) id with
              | true => rw [hb] at h; cases h; exact .head _
              | false => rw [hb] at h; exact .tail _ (ih c' h)
          have hall : ∀ (nt : Nat) (c : Code), codeIn nt c = true → ∀ c' ∈ loopsOf c, codeIn nt c' = true ∧ ∀ l ∈ loopsOf c', l ∈ loopsOf c := by
            intro nt c
            induction c with
            | seq x y ihx ihy =>
              intro h c' hc'
              simp only [codeIn, Bool.and_eq_true] at h
              simp only [loopsOf, List.mem_append] at hc' ⊢
              rcases hc' with hc' | hc'
              · have := ihx h.1 c' hc'; exact ⟨this.1, fun l hl => .inl (this.2 l hl)⟩
              · have := ihy h.2 c' hc'; exact ⟨this.1, fun l hl => .inr (this.2 l hl)⟩
            | cond o x y ihx ihy =>
              intro h c' hc'
              simp only [codeIn, Bool.and_eq_true] at h
              simp only [loopsOf, List.mem_append] at hc' ⊢
              rcases hc' with hc' | hc'
              · have := ihx h.1 c' hc'; exact ⟨this.1, fun l hl => .inl (this.2 l hl)⟩
              · have := ihy h.2 c' hc'; exact ⟨this.1, fun l hl => .inr (this.2 l hl)⟩
            | block id x ih => intro h c' hc'; exact ih h c' hc'
            | loop x ih =>
              intro h c' hc'
              simp only [loopsOf, List.mem_cons] at hc' ⊢
              rcases hc' with rfl | hc'
              · exact ⟨h, fun l hl => .inr hl⟩
              · have := ih h c' hc'; exact ⟨this.1, fun l hl => .inr (this.2 l hl)⟩
            | _ => intro h c' hc'; simp [loopsOf] at hc'
          exact hall _ c h1 c' (hin id _ c' hc')
        refine exec_ok (cx := ⟨pg.T, o, pg.sg⟩) hp.T ih1 ihm (ih2 f fi c hfi hc) (fx := fx) hm c' hsub.1 hsub2 (fun l hl => h2 l (hsub.2 l hl)) hrel (fun e σ' a' V' Im' w' hk' h' => ?_) hk
        cases e with
        | normal =>
          simp only at hk'
          split at hk'
          · rename_i σ2 hno
            obtain ⟨V2, Im2, h2'⟩ := norm_ok h' hm hno
            exact ih2 f fi c hfi hc m id σ2 K z hk' c' hc' fx V2 Im2 a' w' Q hm h2' hK
          · cases hk'
        | exit i =>
          simp only at hk'
          split at hk'
          · rename_i x hx
            split at hk'
            · rename_i σ2 hno
              obtain ⟨V2, Im2, h2'⟩ := norm_ok h' hm hno
              exact hK (.exit i) _ _ _ _ _ hk' h2'
            · cases hk'
          · cases hk'
        | ret =>
          simp only at hk'
          split at hk'
          · rename_i x
            split at hk'
            · rename_i σ2 hno
              obtain ⟨V2, Im2, h2'⟩ := norm_ok h' hm hno
              exact hK .ret _ _ _ _ _ hk' h2'
            · cases hk'
          · cases hk'
      · cases hk
theorem run_ok {pg : Pg u R} (hp : PgOk P pg) : ∀ n, OrcOk P (run pg n).fn ∧ ∀ f fi c, pg.fns f = some fi → fi.fn.body = some c → LpOk P (run pg n).lp f fi.fn.ntmps (loopsOf c)
  | 0 => by
    constructor
    · intro f as os K z h
      cases h
    · intro f fi c _ _ m id σ K z h
      cases h
  | n + 1 => body_ok hp (run_ok hp n).1 (run_ok hp n).2 (me_run hp.me n)
end
end Go.Proofs.YtmppaodhihnejaaGreat.M
