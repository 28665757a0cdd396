/- slices.Clone: nil stays nil; so what it tells of its argument is the same list. -/
import Derived.Test.YtmppaodhihnejaaGreatTab
set_option linter.unusedVariables false
namespace Go.Proofs.YtmppaodhihnejaaGreat.M
open Go

section
variable {P : Program} {u : Uni} {R : Type}

/-- What slices.Clone does, in data. -/
def cloneX (τ : Ty) (bytes : Nat) : List (SV u) → List (Ob u) → (List (SV u) → List (Ob u) → Option R) → Option R
  | [.v a], os, K => match toL (obsF os) τ a with
    | some xs => bif ltN os.length 5000 then ck (decide (xs.length * bytes ≤ roomOf)) (K [.v (.c ⟨.sl τ, xs⟩)] os) else none
    | none => none
  | _, _, _ => none
theorem me_cloneX (τ : Ty) (b : Nat) (as : List (SV u)) (os : List (Ob u)) : ME2 (cloneX (R := R) τ b as os) := by
  intro kk z h
  unfold cloneX at h
  split at h
  · rename_i a
    split at h
    · rename_i xs hx
      cases hb : ltN os.length 5000 with
      | false => rw [hb] at h; cases h
      | true =>
        rw [hb, cond_true] at h
        obtain ⟨hc, h⟩ := ck_some h
        exact ⟨_, _, h, fun kk' z' h' => by unfold cloneX; simp only [hx, hb, cond_true]; exact ck_intro hc h'⟩
    · cases h
  · cases h

def cloneCode (st st' : TypeId) (r0 r1 r2 r3 : Nat) (t : Nat → TypeId) (p : Nat → String) (a : Nat → Array Edge) : Code :=
  .seq (.region r0 #[⟨some 2, .assign (.const (.slice none 0 0)), t 0, p 0, a 0, none⟩] false)
    (.seq (.seq (.region r1 #[⟨some 3, .move (.tmp 0), t 1, p 1, a 1, none⟩, ⟨some 4, .binOp .eql st (.tmp 3) (.const (.slice none 0 0)) st', t 2, p 2, a 2, none⟩] false)
        (.cond (.tmp 4) (.seq (.region r2 #[⟨some 2, .assign (.const (.slice none 0 0)), t 3, p 3, a 3, none⟩] false) .ret) .skip))
      (.seq (.region r3 #[⟨some 5, .buildSlice st 0 #[], t 4, p 4, a 4, none⟩, ⟨some 6, .move (.tmp 0), t 5, p 5, a 5, none⟩,
          ⟨some 7, .call ⟨.builtin .append, #[.tmp 5, .tmp 6], #[st, st]⟩, t 6, p 6, a 6, none⟩, ⟨some 2, .assign (.tmp 7), t 7, p 7, a 7, none⟩] false) .ret))

theorem equal_nil {t e : TypeId} (ht : P.underlying t = some (.slice e)) (A : Option Addr) (n c : Nat) (w : World) : (Op.equal t (.slice A n c) (.slice none 0 0)).run P w = .ok A.isNone w := by
  rw [equal_step, Op.equalIn, Sem.run_bind, run_underlying ht]
  cases A <;> rfl

/-! ### What an object leads to is live -/
theorem ptrR_live {V : Nat → Value} {L : Nat → Prop} {k n : Nat} {v : Value} (h : ptrR V L k n v) : ∀ i ∈ List.range' k n, L i := by
  obtain ⟨b, o, e, hj⟩ := h
  intro i hi
  rw [List.mem_range'] at hi
  obtain ⟨j, hj', e'⟩ := hi
  have := (hj j hj').1
  rw [e', Nat.one_mul]
  exact this
theorem R2_live {α : Type} {r : α → Value → Prop} {f : α → List Nat} {L : Nat → Prop} (hr : ∀ a v, r a v → ∀ i ∈ f a, L i) : ∀ {as : List α} {vs : List Value}, R2 r as vs → ∀ i ∈ as.flatMap f, L i
  | [], [], _, i, hi => by simp at hi
  | [], _ :: _, h, _, _ => h.elim
  | _ :: _, [], h, _, _ => h.elim
  | a :: as, v :: vs, h, i, hi => by
    simp only [List.flatMap_cons, List.mem_append] at hi
    rcases hi with hi | hi
    · exact hr a v h.1 i hi
    · exact R2_live hr h.2 i hi
theorem AR_live {V : Nat → Value} {L : Nat → Prop} {w : World} {Im : Nat → Prop} {a : AV u} {v : Value} (h : AR u V L w Im a v) : ∀ i ∈ refs a, L i := by
  intro i hi
  cases a with
  | ptr k n => exact ptrR_live h i hi
  | ep k s j o => simp only [refs, List.mem_singleton] at hi; subst hi; exact h.1
  | own k => simp only [refs, List.mem_singleton] at hi; subst hi; exact h.1
  | view k s lo len c => simp only [refs, List.mem_singleton] at hi; subst hi; exact h.1
  | map k => simp only [refs, List.mem_singleton] at hi; subst hi; exact h.1
  | it k => simp only [refs, List.mem_singleton] at hi; subst hi; exact h.1
  | fn f caps =>
    obtain ⟨cs, e, hr⟩ := h
    refine R2_live (f := refs0) (fun a v ha i hi => ?_) hr i hi
    cases a with
    | ptr k n => exact ptrR_live ha i hi
    | _ => simp [refs0] at hi
  | _ => simp [refs] at hi

/-- A function that leaves what it was lent as it was: what it made besides is forgotten. -/
theorem Inv.home {V0 : Nat → Value} {w0 : World} {Im0 : Nat → Prop} {os : List (Ob u)} (hr0 : HR u V0 w0 Im0 (obsF os)) {V : Nat → Value} {w : World} {Im : Nat → Prop} {ob : Nat → Ob u} (h : Inv u (fixOf V0 w0 Im0 os) V w Im ob) (he : ∀ k, k < os.length → ob k = obsF os k) :
    Step u (fixOf V0 w0 Im0 os) V0 w0 Im0 (obsF os) V w Im (obsF os) := by
  have hout : ∀ k, ¬ k < os.length → obsF os k = .fresh := fun k hk => obsF_none (List.getElem?_eq_none (by omega))
  have hlive : ∀ k, Lv u (obsF os) k → k < os.length := fun k hk => by
    apply Classical.byContradiction
    intro hn
    exact Lv_iff.1 hk (hout k hn)
  have hp : ∀ k p, plc (obsF os k) (V k) = some p → plc (ob k) (V k) = some p := by
    intro k p hp
    by_cases hk : k < os.length
    · rw [he k hk]; exact hp
    · rw [hout k hk] at hp; cases hp
  have f := h.fr
  have hV : ∀ k, k < os.length → V k = V0 k := fun k hk => (f.keys k hk).2
  have E : Ext V0 (Lv u (obsF os)) w0 Im0 V (Lv u (obsF os)) w Im := by
    refine ⟨fun k hk => ⟨hk, hV k (hlive k hk)⟩, f.imUp, fun b hb => f.block b (hr0.imLt b hb) (fun o hO => ?_)⟩
    obtain ⟨k, hk'⟩ := hO
    exact hr0.notIm k _ hk' hb
  refine ⟨E, ⟨fun k => ?_, fun k k' p p' hk h1 h2 => h.hr.disj k k' p p' hk (hp k p h1) (hp k' p' h2), fun k p h1 => h.hr.notIm k p (hp k p h1), fun k p h1 => h.hr.lt k p (hp k p h1), h.hr.imLt⟩,
    ⟨f.os, f.tape, f.output, f.size, f.block, f.cell, f.imUp, f.imIn, fun k p hk => f.ownIn k p (hp k p hk), fun k hk => ⟨?_, (f.keys k hk).2⟩⟩⟩
  · by_cases hk : k < os.length
    · have ho := h.hr.obs k
      have ho0 := hr0.obs k
      rw [he k hk] at ho
      cases hok : obsF os k with
      | cell a =>
        rw [hok] at ho ho0
        obtain ⟨ad, y, h1, h2, h3, h4, h5⟩ := ho
        obtain ⟨ad0, y0, g1, g2, g3, g4, g5⟩ := ho0
        exact ⟨ad, y, h1, h2, h3, h4, h5.live fun i hi _ => AR_live g5 i hi⟩
      | _ => rw [hok] at ho; exact ho
    · rw [hout k hk]; trivial
  · have := (f.keys k hk).1
    exact Lv_iff.2 (by rw [← he k hk]; exact Lv_iff.1 this)
def orc0 : Orcs u R := ⟨fun _ _ _ _ => none, fun _ _ _ _ _ => none⟩
theorem orc0_ok : OrcOk P (orc0 (u := u) (R := R)).fn := fun f as os K z h => by cases h
theorem orc0_me : OrcsME (orc0 (u := u) (R := R)) := by
  constructor
  · intro f as os kk z h; cases h
  · intro f m id σ kk z h; cases h
theorem orc0_lp (f : FuncId) (nt : Nat) (ls : List Code) : LpOk P (orc0 (u := u) (R := R)).lp f nt ls := fun m id σ K z h => by cases h

theorem wpOps_cons {ops : Array Oper} {Q : Exit → Act → World → Prop} {i : Nat} {rest : List Nat} {o : Oper} {a : Act} {w : World} (ho : ops[i]? = some o) (hg : o.guard = none) (h : o.wp P a w (wpOps P ops Q rest) Q) : wpOps P ops Q (i :: rest) a w := by
  simp only [wpOps, ho]
  rw [if_pos (by simp [Region.wanted, hg])]
  exact .inl h
theorem wp_val {o : Oper} {next : Act → World → Prop} {Q : Exit → Act → World → Prop} {a : Act} {w w' : World} {v : Value} (h : (execOp a.eval o).run P w = .ok (.value v) w') (hn : next (a.put o.dst v) w') : o.wp P a w next Q := by
  unfold Oper.wp
  rw [h]
  exact hn

theorem blt_app {T : TypeId → Option (TI u)} {lk : Nat → Ob u} {dk : Nat} {t tx : TypeId} {a x : AV u} {kk : Kt u R} {e : TypeId} {g1 : Bool} {g2 g3 : Nat} {g4 : List (AV u)} {g5 : Option Ty} (ht : T t = some ⟨.sl e, g1, g2, g3, g4, g5⟩) :
    bltOp T lk dk .append [t, tx] [one a, one x] kk = apOp lk dk e (T e) (T tx) a x (fun r us => kk (one r) us) := by
  show (match T t with
    | some ⟨.sl e, _, _, _, _, _⟩ => apOp lk dk e (T e) (T tx) a x (fun r us => kk (one r) us)
    | _ => none) = _
  rw [ht]

theorem exec_to {T : TypeId → Option (TI u)} (hT : TOk P T) {fx : Fix} {nt : Nat} {V : Nat → Value} {Im : Nat → Prop} {σ σ1 : St u} {a : Act} {w : World} {c : Code} {hn : Hn} {e1 : Ex} (h : Rel fx nt V Im σ a w) (hc : codeIn nt c = true) (hdr : drawsIn c = true) (hl : loopsOf c = [])
    (hk : exec (R := Ex × St u) ⟨T, orc0, fun _ => none⟩ 0 hn fx.m c (fun e σ => some (e, σ)) σ = some (e1, σ1)) {Q : Exit → Act → World → Prop} (hQ : ∀ a' V' Im' w', Rel fx nt V' Im' σ1 a' w' → Q (exOf e1) a' w') : c.wp P Q a w :=
  exec_ok (cx := ⟨T, orc0, fun _ => none⟩) (K := fun e σ => some (e, σ)) hT orc0_ok orc0_me (orc0_lp 0 nt []) rfl c hc hdr (fun l h => by rw [hl] at h; cases h) h (fun e σ' a' V' Im' w' hk' h' => by
    injection hk' with hk'
    injection hk' with e1' e2'
    subst e1' e2'
    exact hQ a' V' Im' w' h') hk

set_option maxHeartbeats 1000000 in
theorem clone_ok {T : TypeId → Option (TI u)} (hT : TOk P T) {f : FuncId} {fn : Func} (hf : P.funcs[f]? = some fn) (hname : (fn.name == "runtime.NumGoroutine") = false)
    {st st' : TypeId} {r0 r1 r2 r3 : Nat} {t : Nat → TypeId} {p : Nat → String} {ed : Nat → Array Edge} (hb : fn.body = some (cloneCode st st' r0 r1 r2 r3 t p ed)) (hnt : fn.ntmps = 8) (hres : fn.results = #[.tmp 2])
    {e : TypeId} {g1 : Bool} {g2 g3 : Nat} {g4 : List (AV u)} {g5 : Option Ty} (hst : T st = some ⟨.sl e, g1, g2, g3, g4, g5⟩) {ti : TI u} (hte : T e = some ti) {τ : Ty} (hd : ti.den = some τ) :
    OrcOk P (fun f' as os (K : List (SV u) → List (Ob u) → Option R) => bif Nat.beq f f' then cloneX τ ti.bytes as os K else none) := by
  intro f' as os K z hk V w Im vs hr hlv hargs
  simp only at hk
  cases hff : Nat.beq f f' with
  | false => rw [hff] at hk; cases hk
  | true =>
  rw [hff, cond_true] at hk
  have := Nat.eq_of_beq_eq_true hff
  subst this
  unfold cloneX at hk
  split at hk
  · rename_i av
    split at hk
    · rename_i xs hx
      cases hlen : ltN os.length 5000 with
      | false => rw [hlen] at hk; cases hk
      | true =>
      rw [hlen, cond_true] at hk
      have hlen : os.length < 5000 := Nat.le_of_ble_eq_true hlen
      obtain ⟨hroom, hk⟩ := ck_some hk
      match vs, hargs with
      | [v], hargs =>
      have ha : AR u V (Lv u (obsF os)) w Im av v := hargs.1
      have hund : P.underlying st = some (.slice e) := (hT _ _ hst).kd
      refine .inl ⟨run_enter hf hname hb _ _, calls_of_wp hf hb ?_⟩
      have hrel : Rel (fixOf V w Im os) 8 V Im ⟨slotsAt [.v av], obsF os⟩ { tmps := [v].toArray ++ Array.replicate (fn.ntmps - [v].toArray.size) undef, defers := [] } w :=
        ⟨hr, Fr.start hlv, fun i => slotsAt_ok hargs _ i, by simp [hnt], rfl⟩
      generalize hA : ({ tmps := [v].toArray ++ Array.replicate (fn.ntmps - [v].toArray.size) undef, defers := [] } : Act) = a0 at hrel ⊢
      -- the results
      have fin : ∀ (σ : St u) (a : Act) V' Im' w' r val, Rel (fixOf V w Im os) 8 V' Im' σ a w' → (∀ k, k < os.length → σ.ob k = obsF os k) → σ.sl 2 = one r → (∀ v, AR u V' (Lv u σ.ob) w' Im' r v → Reads u w' Im' τ xs v → ∃ Im2, Step u (fixOf V w Im os) V' w' Im' σ.ob V' w' Im2 val ∧ (∀ k, k < os.length → val k = obsF os k) ∧ CR u w' Im2 v ⟨.sl τ, xs⟩) → toL σ.ob τ r = some xs →
          a.defers = [] ∧ ∃ v', (results fn a.tmps).run P w' = .ok v' w' ∧ ∃ v'', Ending.returned v' = .returned v'' ∧ ∃ res obs V'' Im'', K res obs = some z ∧ Step u (fixOf V w Im os) V w Im (obsF os) V'' w' Im'' (obsF obs) ∧ SlR u V'' (Lv u (obsF obs)) w' Im'' (resSlot res) v'' := by
        intro σ a V' Im' w' r val h hob hs hfr htl
        have h2 := h.sl 2
        rw [hs] at h2
        have hrd := toL_reads h.hr (show AR u V' (Lv u σ.ob) w' Im' r _ from h2) htl
        obtain ⟨Im2, s2, hob2, hc⟩ := hfr _ h2 hrd
        refine ⟨h.df, _, results_tmp hres a.tmps P w', _, rfl, _, os, V', Im2, hk, Inv.home hr s2.inv hob2, hc⟩
      refine wp_seq (exec_to (hn := ⟨fun _ => none⟩) (e1 := .normal) (σ1 := St.set ⟨slotsAt [.v av], obsF os⟩ 2 (one .kn)) hT hrel rfl rfl rfl rfl ?_)
      intro a1 V1 Im1 w1 h1
      have hs0 := h1.sl 0
      have hs0 : AR u V1 (Lv u (obsF os)) w1 Im1 av (a1.tmps.getD 0 undef) := hs0
      obtain ⟨A, c, ws, hv1, q1, q2, q3, q4⟩ := toL_reads (ob := obsF os) h1.hr hs0 hx
      refine wp_seq (wp_seq (wp_region ?_))
      have hb2 : ∀ X Y, (do eqGuard .eql st X Y (a1.tmps.getD 0 undef) (.slice none 0 0); binOp .eql st (a1.tmps.getD 0 undef) (.slice none 0 0) : Sem Value).run P w1 = .ok (.bool A.isNone) w1 := by
        intro X Y
        rw [hv1]
        have := equal_nil hund A xs.length c w1
        simp [eqGuard, binOp, this]
      have h2 := h1.set (d := 3) (by decide) (x := one av) (v := a1.tmps.getD 0 undef) hs0
      have h3 := h2.set (d := 4) (by decide) (x := one (cBool A.isNone)) (v := .bool A.isNone) (.bool _)
      show wpOps P _ _ [0, 1] a1 w1
      refine wpOps_cons rfl rfl (wp_val (v := a1.tmps.getD 0 undef) (w' := w1) rfl ?_)
      have e3 : (a1.put (some 3) (a1.tmps.getD 0 undef)).eval (.tmp 3) = a1.tmps.getD 0 undef := by
        show ((a1.tmps.setIfInBounds 3 _).getD 3 undef) = _
        rw [getD_set _ _ _ _ (by rw [h1.nt]; decide), if_pos rfl]
      refine wpOps_cons rfl rfl (wp_val (v := .bool A.isNone) (w' := w1) ?_ ?_)
      · show ((do pure (.value (← (do eqGuard .eql st (.tmp 3) (.const (.slice none 0 0)) ((a1.put (some 3) (a1.tmps.getD 0 undef)).eval (.tmp 3)) (.slice none 0 0); binOp .eql st ((a1.put (some 3) (a1.tmps.getD 0 undef)).eval (.tmp 3)) (.slice none 0 0)))) : Sem Next)).run P w1 = _
        rw [e3, Sem.run_bind, hb2]
        rfl
      show Code.wp P _ _ _ _
      have hcond : ((a1.put (some 3) (a1.tmps.getD 0 undef)).put (some 4) (.bool A.isNone)).eval (.tmp 4) = .bool A.isNone := by
        show (((a1.put (some 3) (a1.tmps.getD 0 undef)).tmps.setIfInBounds 4 _).getD 4 undef) = _
        rw [getD_set _ _ _ _ (by rw [h2.nt]; decide), if_pos rfl]
      cases A with
      | none =>
        have hxs : xs = [] := by
          have hw : ws = [] := by
            cases ws with
            | nil => rfl
            | cons y r => obtain ⟨_, e', _⟩ := q4 (by simp); cases e'
          subst hw
          have := q3.length
          rw [flats_length] at this
          cases xs with
          | nil => rfl
          | cons x r =>
            rw [List.length_cons, Nat.add_mul, Nat.one_mul] at this
            have hp := sz_pos u τ
            have h0 : 0 = r.length * sz u τ + sz u τ := this
            omega
        refine wp_cond_true hcond (exec_to (hn := ⟨fun _ => none⟩) (e1 := .ret) (σ1 := St.set (St.set (St.set (St.set ⟨slotsAt [.v av], obsF os⟩ 2 (one .kn)) 3 (one av)) 4 (one (cBool true))) 2 (one .kn)) hT h3 rfl rfl rfl rfl ?_)
        intro a4 V4 Im4 w4 h4
        refine fin _ a4 V4 Im4 w4 .kn (obsF os) h4 (fun _ _ => rfl) rfl (fun v hv hrd => ⟨Im4, .refl h4.inv, fun _ _ => rfl, ?_⟩) (by subst hxs; rfl)
        obtain ⟨A', e'⟩ := hv
        subst hxs
        rw [e']
        exact .sl τ [] A' 0 [] (Nat.le_refl _) (by unfold maxLen; omega) (by simp) (fun h => absurd rfl h) (fun j v c h => by simp at h)
      | some ad =>
        refine wp_cond_false hcond (wp_skip ?_)
        show Code.wp P _ _ _ _
        have hfr : ∀ k, 5000 ≤ k → obsF os k = .fresh := fun k hk => obsF_none (List.getElem?_eq_none (by omega))
        have hx' : toL (M.upd (obsF os) 6000 (.row e τ [])) τ av = some xs := by
          rw [← hx]
          refine (toL_lk fun i hi => ?_).symm
          have := AR_live ha i hi
          have hi' : i < os.length := by
            apply Classical.byContradiction
            intro hn
            exact Lv_iff.1 this (obsF_none (List.getElem?_eq_none (by omega)))
          rw [upd_ne _ _ (by omega)]
        have hnw : newsOf (some ⟨.sl e, g1, g2, g3, g4, g5⟩) (M.upd (obsF os) 6000 (.row e τ [])) τ av = some xs := hx'
        have hself : ∀ ys : List (u.D τ), asL τ τ ys = some ys := fun ys => by unfold asL Cell.as; exact dif_pos rfl
        have hbs : ∀ kk : AV u → List (Nat × Ob u) → Option (Ex × St u), bsOp (obsF os) 6000 e (some ti) 0 [] kk = kk (.own 6000) [(6000, .row e τ [])] := by
          intro kk
          unfold bsOp
          simp only [hd, fillA, repL, toElems, upds, hfr 6000 (by omega), Nat.zero_mul]
          rfl
        have hap : ∀ kk : AV u → List (Nat × Ob u) → Option (Ex × St u), apOp (M.upd (obsF os) 6000 (.row e τ [])) 8000 e (some ti) (some ⟨.sl e, g1, g2, g3, g4, g5⟩) (.own 6000) av kk = kk (.own 8000) [(6000, .dead), (8000, .row e τ xs)] := by
          intro kk
          have hr0 : decide ((([] : List (u.D τ)).length + xs.length) * ti.bytes ≤ roomOf) = true := by rw [List.length_nil, Nat.zero_add]; exact hroom
          unfold apOp
          simp only [hd, hnw, upd_same, show Nat.beq e e = true from Nat.beq_refl e, cond_true, hself, upd_ne _ _ (show (8000 : Nat) ≠ 6000 by decide), hfr 8000 (by omega)]
          rw [hr0]
          rfl
        refine exec_to (hn := ⟨fun _ => none⟩) (e1 := .ret) (σ1 := ⟨M.upd (M.upd (M.upd (M.upd (St.set (St.set (St.set ⟨slotsAt [.v av], obsF os⟩ 2 (one .kn)) 3 (one av)) 4 (one (cBool (some ad : Option Addr).isNone))).sl 5 (one (.own 6000))) 6 (one av)) 7 (one (.own 8000))) 2 (one (.own 8000)),
          M.upd (M.upd (M.upd (obsF os) 6000 (.row e τ [])) 6000 .dead) 8000 (.row e τ xs)⟩) hT h3 rfl rfl rfl ?_ ?_
        · simp only [exec, execIx, upTo, nthO, gOp, opK, opKd, withK, usesK, sem, List.length_cons, List.length_nil]
          rw [hst]
          simp only
          rw [hte]
          rw [cond_true]
          show findK (obsF os) _ 200 6000 = _
          refine (findK_fresh (n := 199) (d := 6000) (hfr 6000 (by omega))).trans ?_
          refine (hbs _).trans ?_
          simp only [cond_true, cond_false]
          show findK (M.upd (obsF os) 6000 (.row e τ [])) _ 200 8000 = _
          refine (findK_fresh (lk := M.upd (obsF os) 6000 (.row e τ [])) (n := 199) (d := 8000) (by rw [upd_ne _ _ (by omega)]; exact hfr 8000 (by omega))).trans ?_
          show bltOp T (M.upd (obsF os) 6000 (.row e τ [])) 8000 .append [st, st] [one (.own 6000), one av] _ = _
          rw [blt_app hst, hte, hst]
          exact hap _
        intro a4 V4 Im4 w4 h4
        obtain ⟨Im5, s5⟩ := h4.inv.freeze 8000 e τ xs (show M.upd (M.upd (M.upd (obsF os) 6000 (.row e τ [])) 6000 .dead) 8000 (.row e τ xs) 8000 = _ from upd_same _ _ _)
        refine fin _ a4 V4 Im4 w4 (.own 8000) _ h4 (fun k hk => ?_) rfl (fun v hv hrd => ⟨Im5, s5, fun k hk => ?_, ?_⟩) ?_
        · show M.upd _ 8000 _ k = _
          rw [upd_ne _ _ (by omega), upd_ne _ _ (by omega), upd_ne _ _ (by omega)]
        · rw [upd_ne _ _ (by omega)]
          show M.upd _ 8000 _ k = _
          rw [upd_ne _ _ (by omega), upd_ne _ _ (by omega), upd_ne _ _ (by omega)]
        · have := s5.inv.hr.obs 8000
          rw [upd_same] at this
          rw [hv.2.1]
          exact this.1
        · show obL τ (M.upd (M.upd (M.upd (obsF os) 6000 (.row e τ [])) 6000 .dead) 8000 (.row e τ xs) 8000) = some xs
          rw [upd_same]
          exact hself xs
    · cases hk
  · cases hk
end
end Go.Proofs.YtmppaodhihnejaaGreat.M
