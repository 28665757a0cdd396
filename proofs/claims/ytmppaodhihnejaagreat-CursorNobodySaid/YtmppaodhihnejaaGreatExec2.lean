/- Regions, code. -/
import Derived.Test.YtmppaodhihnejaaGreatDraw2
set_option linter.unusedVariables false
namespace Go.Proofs.YtmppaodhihnejaaGreat.M
open Go

section
variable {P : Program} {u : Uni} {R : Type} {fx : Fix} {nt : Nat} {V : Nat → Value} {Im : Nat → Prop} {σ : St u} {a : Act} {w : World}

theorem Rel.reslot (h : Rel fx nt V Im σ a w) {d : Nat} {x : Slot u} (hx : SlR u V (Lv u σ.ob) w Im x (a.tmps.getD d undef)) : Rel fx nt V Im (σ.set d x) a w := by
  refine ⟨h.hr, h.fr, fun i => ?_, h.nt, h.df⟩
  show SlR u V (Lv u σ.ob) w Im (M.upd σ.sl d x i) (a.tmps.getD i undef)
  by_cases e : i = d
  · subst e
    rw [upd_same]
    exact hx
  · rw [upd_ne _ _ e]
    exact h.sl i
theorem Rel.bool (h : Rel fx nt V Im σ a w) {s : Nat} {b : Bool} (hb : rdBool (σ.sl s) = some b) : a.tmps.getD s undef = .bool b ∧ Rel fx nt V Im (σ.set s (one (cBool b))) a w := by
  have e := rdBool_eq hb
  have hs := h.sl s
  refine ⟨?_, h.reslot (e ▸ hs)⟩
  rw [e] at hs
  exact CR.bool_inv (show CR u w Im _ ⟨.bool, b⟩ from hs)

theorem gOp_ok {ops : Array Oper} {o : Oper} (h : Rel fx nt V Im σ a w) {p s : St u → Option R} {z : R} (hk : gOp ops o σ p s = some z) :
    ∃ σ', Rel fx nt V Im σ' a w ∧ ((Region.wanted o (yielded ops a.tmps) = true ∧ p σ' = some z) ∨ (Region.wanted o (yielded ops a.tmps) = false ∧ s σ' = some z)) := by
  unfold gOp at hk
  split at hk
  · rename_i hg
    exact ⟨σ, h, .inl ⟨by simp [Region.wanted, hg], hk⟩⟩
  · rename_i j want hg
    split at hk
    · rename_i t ht
      rw [nthO_ops] at ht
      split at hk
      · rename_i b hb
        obtain ⟨h1, h2⟩ := h.bool hb
        have hy : yielded ops a.tmps j = some b := by
          have : a.tmps[t]? = some (.bool b) := by
            rw [Array.getD_eq_getD_getElem?] at h1
            cases ht : a.tmps[t]? with
            | none => rw [ht] at h1; cases h1
            | some v => rw [ht] at h1; simpa using h1
          simp [yielded, ht, this]
        refine ⟨_, h2, ?_⟩
        simp only [Region.wanted, hg, hy]
        cases want <;> cases b <;> simp only [cond_true, cond_false] at hk
        · exact .inl ⟨rfl, hk⟩
        · exact .inr ⟨rfl, hk⟩
        · exact .inr ⟨rfl, hk⟩
        · exact .inl ⟨rfl, hk⟩
      · cases hu : isUnd (σ.sl t) with
        | false => rw [hu] at hk; cases hk
        | true =>
          rw [hu] at hk
          refine ⟨σ, h, .inr ⟨?_, hk⟩⟩
          have hs := h.sl t
          have e : σ.sl t = .und := by
            revert hu
            cases σ.sl t <;> simp [isUnd]
          rw [e] at hs
          have hs : a.tmps.getD t undef = undef := hs
          rw [Array.getD_eq_getD_getElem?] at hs
          have hy : yielded ops a.tmps j = none := by
            cases hv : a.tmps[t]? with
            | none => simp [yielded, ht, hv]
            | some v =>
              rw [hv] at hs
              have hs : v = undef := hs
              subst hs
              simp [yielded, ht, hv, undef]
          simp [Region.wanted, hg, hy]
    · cases hk

theorem undef_dead {L : Nat → Prop} : SlR u V L w Im .und undef := rfl

theorem execIx_ok {cx : Cx u R} (hT : TOk P cx.T) (hO : OrcOk P cx.o.fn) {ops : Array Oper} (hd : ∀ (i : Nat) (o : Oper), ops[i]? = some o → ∀ d, o.dst = some d → d < nt) {K : St u → Option R} {z : R} {Q : Exit → Act → World → Prop}
    (hn : ∀ σ' a' V' Im' w', K σ' = some z → Rel fx nt V' Im' σ' a' w' → Q .normal a' w') :
    ∀ (l : List Nat) {σ : St u} {a : Act} {w : World} {V : Nat → Value} {Im : Nat → Prop}, Rel fx nt V Im σ a w → execIx cx ops l σ K = some z → wpOps P ops Q l a w
  | [], σ, a, w, V, Im, h, hk => hn σ a V Im w hk h
  | i :: l, σ, a, w, V, Im, h, hk => by
    simp only [execIx, nthO_ops] at hk
    simp only [wpOps]
    split at hk
    · rename_i o ho
      rw [ho]
      simp only
      obtain ⟨σ', h', hc⟩ := gOp_ok h hk
      rcases hc with ⟨hw, hp⟩ | ⟨hw, hp⟩
      · rw [if_pos hw]
        exact .inl (op_ok hT hO h' (hd i o ho) hp fun σ2 a2 V2 Im2 w2 hk2 h2 => execIx_ok hT hO hd hn l h2 hk2)
      · rw [if_neg (by rw [hw]; simp)]
        exact execIx_ok hT hO hd hn l (h'.put (hd i o ho) undef_dead) hp
    · rename_i ho
      rw [ho]
      exact execIx_ok hT hO hd hn l h hk

theorem execIxD_ok {cx : Cx u R} (hT : TOk P cx.T) (hO : OrcOk P cx.o.fn) {ops : Array Oper} {dks : Nat → Nat} (hd : ∀ (i : Nat) (o : Oper), ops[i]? = some o → ∀ d, o.dst = some d → d < nt) {K : St u → Option R} {z : R} {Q : Exit → Act → World → Prop}
    (hn : ∀ σ' a' V' Im' w', K σ' = some z → Rel fx nt V' Im' σ' a' w' → Q .normal a' w') :
    ∀ (l : List Nat) {σ : St u} {a : Act} {w : World} {V : Nat → Value} {Im : Nat → Prop}, Rel fx nt V Im σ a w → execIxD cx ops dks l σ K = some z → wpOps P ops Q l a w
  | [], σ, a, w, V, Im, h, hk => hn σ a V Im w hk h
  | i :: l, σ, a, w, V, Im, h, hk => by
    simp only [execIxD, nthO_ops] at hk
    simp only [wpOps]
    split at hk
    · rename_i o ho
      rw [ho]
      simp only
      obtain ⟨σ', h', hc⟩ := gOp_ok h hk
      rcases hc with ⟨hw, hp⟩ | ⟨hw, hp⟩
      · rw [if_pos hw]
        exact .inl (op_okD hT hO h' (hd i o ho) hp fun σ2 a2 V2 Im2 w2 hk2 h2 => execIxD_ok hT hO hd hn l h2 hk2)
      · rw [if_neg (by rw [hw]; simp)]
        exact execIxD_ok hT hO hd hn l (h'.put (hd i o ho) undef_dead) hp
    · rename_i ho
      rw [ho]
      exact execIxD_ok hT hO hd hn l h hk

/-! ### Loops -/
/-- A loop that has been entered. -/
def LoopWp (P : Program) (c : Code) (Q : Exit → Act → World → Prop) (a : Act) (w : World) : Prop :=
  ∀ (b : Frame) (k : List Item) (cs : List Frame), ∃ e a' w', Q e a' w' ∧ Arrives P (lone (b.at a (.code c :: .inLoop c :: k)) cs w) b k cs e a' w'
theorem LoopWp.enter {c : Code} {Q : Exit → Act → World → Prop} (h : LoopWp P c Q a w) : (Code.loop c).wp P Q a w := by
  intro b k cs
  obtain ⟨e, a', w', hq, harr⟩ := h b k cs
  exact ⟨e, a', w', hq, .of_steps (.one step_loop) harr⟩
theorem LoopWp.round {c : Code} {Q : Exit → Act → World → Prop} (h : c.wp P (Exit.then (LoopWp P c Q) Q) a w) : LoopWp P c Q a w := by
  intro b k cs
  obtain ⟨e, a₁, w₁, hq, harr⟩ := h b (.inLoop c :: k) cs
  cases e with
  | normal =>
    obtain ⟨e₂, a₂, w₂, hq₂, harr₂⟩ := hq b k cs
    exact ⟨e₂, a₂, w₂, hq₂, .of_steps (Steps.trans harr (.one step_inLoop)) harr₂⟩
  | exit id => exact ⟨_, a₁, w₁, hq, .pass (x := .inLoop c) rfl (fun _ _ => .inl (by simp)) harr⟩
  | goto l => exact ⟨_, a₁, w₁, hq, .pass (x := .inLoop c) rfl (fun _ _ => .inl (by simp)) harr⟩
  | ret => exact ⟨_, a₁, w₁, hq, .pass (x := .inLoop c) rfl (fun _ _ => .inl (by simp)) harr⟩
  | panic ch => exact ⟨_, a₁, w₁, hq, .pass (x := .inLoop c) rfl (fun _ _ => .inl (by simp)) harr⟩
  | outgrown => exact ⟨_, a₁, w₁, hq, .pass (x := .inLoop c) rfl (fun _ _ => .inl (by simp)) harr⟩

/-! ### A state brought to a shape -/
theorem ptrR.live {L L' : Nat → Prop} {k n : Nat} {v : Value} (hl : ∀ i, i ∈ List.range' k n → L i → L' i) (h : ptrR V L k n v) : ptrR V L' k n v := by
  obtain ⟨b, o, e, hj⟩ := h
  exact ⟨b, o, e, fun j hjn => ⟨hl _ (by rw [List.mem_range']; exact ⟨j, hjn, by omega⟩) (hj j hjn).1, (hj j hjn).2⟩⟩
theorem AR0.live {L L' : Nat → Prop} {x : AV0 u} {v : Value} (hl : ∀ i, i ∈ refs0 x → L i → L' i) (h : AR0 u V L w Im x v) : AR0 u V L' w Im x v := by
  cases x with
  | ptr k n => exact ptrR.live hl h
  | _ => exact h
theorem R2.livef {α : Type} {r r' : α → Value → Prop} {f : α → List Nat} {L L' : Nat → Prop} (hr : ∀ a v, (∀ i, i ∈ f a → L i → L' i) → r a v → r' a v) : ∀ {as : List α} {vs : List Value}, (∀ i, i ∈ as.flatMap f → L i → L' i) → R2 r as vs → R2 r' as vs
  | [], [], _, _ => trivial
  | [], _ :: _, _, h => h.elim
  | _ :: _, [], _, h => h.elim
  | a :: as, v :: vs, hl, h => ⟨hr a v (fun i hi => hl i (by simp [hi])) h.1, R2.livef hr (fun i hi => hl i (by simp only [List.flatMap_cons, List.mem_append]; exact .inr hi)) h.2⟩
theorem AR.live {L L' : Nat → Prop} {x : AV u} {v : Value} (hl : ∀ i, i ∈ refs x → L i → L' i) (h : AR u V L w Im x v) : AR u V L' w Im x v := by
  cases x with
  | ptr k n => exact ptrR.live hl h
  | ep k s i o => exact ⟨hl k (by simp [refs]) h.1, h.2⟩
  | own k => exact ⟨hl k (by simp [refs]) h.1, h.2⟩
  | view k s lo len c => exact ⟨hl k (by simp [refs]) h.1, h.2⟩
  | map k => exact ⟨hl k (by simp [refs]) h.1, h.2⟩
  | it k => exact ⟨hl k (by simp [refs]) h.1, h.2⟩
  | fn f caps =>
    obtain ⟨cs, e, hr⟩ := h
    exact ⟨cs, e, R2.livef (f := refs0) (fun _ _ => AR0.live) hl hr⟩
  | _ => exact h
theorem SR.live {L L' : Nat → Prop} {x : SV u} {v : Value} (hl : ∀ i, i ∈ x.cells.flatMap refs → L i → L' i) (h : SR u V L w Im x v) : SR u V L' w Im x v := by
  cases x with
  | v a => exact AR.live (fun i hi => hl i (by simp [SV.cells, hi])) h
  | agg cs =>
    obtain ⟨vs, e, hr⟩ := h
    exact ⟨vs, e, R2.livef (f := refs) (fun _ _ => AR.live) hl hr⟩

theorem kept_eq {lk : Nat → Ob u} {k : Nat} : ∀ {l : List Nat}, kept lk l k = bif memN k l then lk k else .fresh
  | [] => rfl
  | x :: l => by
    show (bif Nat.beq k x then lk x else kept lk l k) = bif (Nat.beq k x || memN k l) then lk k else .fresh
    rw [kept_eq]
    cases hb : Nat.beq k x with
    | true =>
      have := Nat.eq_of_beq_eq_true hb
      subst this
      rfl
    | false => rfl
theorem kept_in {lk : Nat → Ob u} {l : List Nat} {k : Nat} (h : k ∈ l) : kept lk l k = lk k := by rw [kept_eq, memN_iff.2 h]; rfl
theorem kept_out {lk : Nat → Ob u} {l : List Nat} {k : Nat} (h : k ∉ l) : kept lk l k = .fresh := by
  have : memN k l = false := by
    cases hb : memN k l with
    | false => rfl
    | true => exact absurd (memN_iff.1 hb) h
  rw [kept_eq, this]
  rfl
theorem kept_live {lk : Nat → Ob u} {l : List Nat} {k : Nat} (h : k ∈ l) (hl : Lv u lk k) : Lv u (kept lk l) k := Lv_iff.2 (by rw [kept_in h]; exact Lv_iff.1 hl)
theorem cellRefs_mem {lk : Nat → Ob u} : ∀ {l : List Nat} {k i : Nat}, k ∈ l → i ∈ obRefs (lk k) → i ∈ cellRefs lk l
  | x :: l, k, i, h, hi => by
    simp only [cellRefs, List.mem_append]
    cases h with
    | head => exact .inl hi
    | tail _ h => exact .inr (cellRefs_mem h hi)

/-- Objects that nothing leads to are forgotten. -/
theorem Inv.keep {ob : Nat → Ob u} (h : Inv u fx V w Im ob) {l : List Nat} (hc : allIn l (cellRefs ob l) = true) (hm : ∀ k, k < fx.m → k ∈ l) : Inv u fx V w Im (kept ob l) := by
  have hp : ∀ k p, plc (kept ob l k) (V k) = some p → plc (ob k) (V k) = some p := by
    intro k p hp
    by_cases hk : k ∈ l
    · rwa [kept_in hk] at hp
    · rw [kept_out hk] at hp
      cases hp
  refine ⟨⟨fun k => ?_, fun k k' p p' hk h1 h2 => h.hr.disj k k' p p' hk (hp k p h1) (hp k' p' h2), fun k p h1 => h.hr.notIm k p (hp k p h1), fun k p h1 => h.hr.lt k p (hp k p h1), h.hr.imLt⟩, ?_⟩
  · by_cases hk : k ∈ l
    · rw [kept_in hk]
      have ho := h.hr.obs k
      cases hok : ob k with
      | cell a =>
        rw [hok] at ho
        obtain ⟨ad, y, h1, h2, h3, h4, h5⟩ := ho
        refine ⟨ad, y, h1, h2, h3, h4, ?_⟩
        exact h5.live fun i hi hlv => kept_live (allIn_mem hc i (cellRefs_mem hk (by rw [hok]; exact hi))) hlv
      | _ => rw [hok] at ho; exact ho
    · rw [kept_out hk]
      trivial
  · have f := h.fr
    exact ⟨f.os, f.tape, f.output, f.size, f.block, f.cell, f.imUp, f.imIn, fun k p hk => f.ownIn k p (hp k p hk), fun k hk => ⟨kept_live (hm k hk) (f.keys k hk).1, (f.keys k hk).2⟩⟩
theorem normSlots_ok : ∀ {hs : List (Nat × List Sh)} {ys : List (Nat × SV u)} {us : List (Nat × Ob u)} {V : Nat → Value} {Im : Nat → Prop} {ob : Nat → Ob u} {sl : Nat → Slot u} (h : Inv u fx V w Im ob) (hsl : ∀ i, SlR u V (Lv u ob) w Im (sl i) (a.tmps.getD i undef)) (hx : normSlots ob sl hs = some (ys, us)),
    ∃ V' Im', Step u fx V w Im ob V' w Im' (upds ob us) ∧ ∀ p ∈ ys, SR u V' (Lv u (upds ob us)) w Im' p.2 (a.tmps.getD p.1 undef)
  | [], ys, us, V, Im, ob, sl, h, hsl, hx => by
    cases hx
    exact ⟨V, Im, .refl h, fun p hp => by cases hp⟩
  | (i, ss) :: hs, ys, us, V, Im, ob, sl, h, hsl, hx => by
    simp only [normSlots] at hx
    split at hx
    · rename_i x hxi
      split at hx
      · rename_i y us1 h1
        split at hx
        · rename_i ys' us2 h2
          cases hx
          have hi := hsl i
          rw [hxi] at hi
          obtain ⟨V1, Im1, s1, hy⟩ := coerceS_ok h hi h1
          obtain ⟨V2, Im2, s2, hys⟩ := normSlots_ok s1.inv (fun i => SlR.ext s1.ext (hsl i)) h2
          rw [upds_app]
          refine ⟨V2, Im2, s1.trans s2, fun p hp => ?_⟩
          cases hp with
          | head => exact SR.ext s2.ext hy
          | tail _ hp => exact hys p hp
        · cases hx
      · cases hx
    · cases hx

theorem Inv.recell {ob : Nat → Ob u} (h : Inv u fx V w Im ob) {k : Nat} {a b : AV u} (ho : ob k = .cell a) (hb : ∀ ad y, V k = .pointer (some ad) → w.cell? ad = some y → AR u V (Lv u ob) w Im b y) : Step u fx V w Im ob V w Im (M.upd ob k (.cell b)) := by
  have hob := h.hr.obs k
  rw [ho] at hob
  obtain ⟨ad, y, h1, h2, h3, h4, h5⟩ := hob
  have s := h.here k (.cell b) (V k) (fun _ => rfl) (by simp) (fun E => ⟨ad, y, h1, h2, h3, h4, AR.ext E (hb ad y h1 h3)⟩)
    (fun p hp => by
      have hp' : plc (ob k) (V k) = some p := by rw [ho]; rw [h1] at hp ⊢; exact hp
      exact ⟨fun k' p' hk' hp2 hc => h.hr.disj k k' p p' (fun e => hk' e.symm) hp' hp2 hc, h.hr.notIm k p hp', h.hr.lt k p hp', h.fr.ownIn k p hp'⟩)
  rwa [upd_self] at s

theorem coerceC_ok : ∀ {hs : List (Nat × Sh)} {us : List (Nat × Ob u)} {V : Nat → Value} {Im : Nat → Prop} {ob : Nat → Ob u} (h : Inv u fx V w Im ob) (hx : coerceC ob hs = some us),
    ∃ V' Im', Step u fx V w Im ob V' w Im' (upds ob us)
  | [], us, V, Im, ob, h, hx => by
    cases hx
    exact ⟨V, Im, .refl h⟩
  | (k, s) :: hs, us, V, Im, ob, h, hx => by
    simp only [coerceC] at hx
    split at hx
    · rename_i a ho
      split at hx
      · rename_i b us1 h1
        split at hx
        · rename_i a' ho'
          split at hx
          · rename_i vs h2
            cases hx
            have hob := h.hr.obs k
            rw [ho] at hob
            obtain ⟨ad, y, g1, g2, g3, g4, g5⟩ := hob
            obtain ⟨V1, Im1, s1, hb⟩ := coerce_ok h g5 h1
            have hV := (s1.ext.lv k (Lv_iff.2 (by rw [ho]; simp))).2
            have s2 := s1.inv.recell ho' (b := b) (fun ad' y' e1 e2 => by
              rw [hV, g1] at e1
              cases e1
              rw [g3] at e2
              cases e2
              exact hb)
            rw [upds_app] at h2
            obtain ⟨V3, Im3, s3⟩ := coerceC_ok s2.inv h2
            rw [upds_app, upds_app]
            exact ⟨V3, Im3, (s1.trans s2).trans s3⟩
          · cases hx
        · cases hx
      · cases hx
    · cases hx
theorem slotsOf_ok {L : Nat → Prop} : ∀ {ys : List (Nat × SV u)}, (∀ p ∈ ys, SR u V L w Im p.2 (a.tmps.getD p.1 undef)) → ∀ i, SlR u V L w Im (slotsOf ys i) (a.tmps.getD i undef)
  | [], _, i => trivial
  | (j, x) :: r, h, i => by
    simp only [slotsOf]
    cases hb : Nat.beq i j with
    | true =>
      have := Nat.eq_of_beq_eq_true hb
      subst this
      exact h _ (.head _)
    | false => exact slotsOf_ok (fun p hp => h p (.tail _ hp)) i

theorem norm_ok {m : Nat} {hd : LH} (h : Rel fx nt V Im σ a w) (hm : fx.m = m) {s' : St0 u} (hx : norm m hd σ = some s') : ∃ V' Im', Rel fx nt V' Im' (stOf s') a w := by
  unfold norm at hx
  split at hx
  · rename_i ys us h1
    obtain ⟨V1, Im1, s1, hys⟩ := normSlots_ok h.inv h.sl h1
    simp only at hx
    split at hx
    · rename_i vs h2
      obtain ⟨V2, Im2, s2⟩ := coerceC_ok s1.inv h2
      generalize hl : hd.cells.map (·.1) ++ hd.keep = l at hx
      cases hb : ((allIn l (refsS (ys.map (·.2))) && allIn l (cellRefs (upds (upds σ.ob us) vs) l)) && allIn l (upTo 0 m)) with
      | false => rw [hb] at hx; cases hx
      | true =>
        rw [hb] at hx
        cases hx
        rw [Bool.and_eq_true, Bool.and_eq_true] at hb
        obtain ⟨hb, hbm⟩ := hb
        have hk := s2.inv.keep hb.2 (fun k hk => allIn_mem hbm k (by rw [upTo_eq, ← hm, List.mem_range']; exact ⟨k, hk, by omega⟩))
        refine ⟨V2, Im2, hk.hr, hk.fr, ?_, h.nt, h.df⟩
        refine slotsOf_ok fun p hp => ?_
        refine SR.live (fun i hi hlv => kept_live (allIn_mem hb.1 i ?_) hlv) (SR.ext s2.ext (hys p hp))
        simp only [refsS, List.mem_flatMap, List.mem_map]
        obtain ⟨c, hc, hci⟩ := List.mem_flatMap.1 hi
        exact ⟨p.2, ⟨p, hp, rfl⟩, c, hc, hci⟩
    · cases hx
  · cases hx

/-! ### Code -/
def exOf : Ex → Exit
  | .normal => .normal
  | .exit id => .exit id
  | .ret => .ret
/-- What is asked of the one who goes round loops. -/
def LpOk (P : Program) (lp : FuncId → Nat → Nat → St0 u → (Ex → St u → Option R) → Option R) (f : FuncId) (nt : Nat) (ls : List Code) : Prop :=
  ∀ m id s (K : Ex → St u → Option R) z, lp f m id s K = some z → ∀ c, findL id ls = some c →
    ∀ (fx : Fix) V Im a w (Q : Exit → Act → World → Prop), fx.m = m → Rel fx nt V Im (stOf s) a w → (∀ e σ' a' V' Im' w', K e σ' = some z → Rel fx nt V' Im' σ' a' w' → Q (exOf e) a' w') → LoopWp P c Q a w

/-- No operation writes beyond the function's temporaries. -/
def dstIn (nt : Nat) : List Oper → Bool
  | [] => true
  | o :: r => (match o.dst with | some d => ltN d nt | none => true) && dstIn nt r
def codeIn (nt : Nat) : Code → Bool
  | .region _ ops _ => dstIn nt ops.toList
  | .seq a b => codeIn nt a && codeIn nt b
  | .cond _ a b => codeIn nt a && codeIn nt b
  | .block _ c => codeIn nt c
  | .loop c => codeIn nt c
  | _ => true
/-- Do the regions whose order is drawn come to the same in all orders? -/
def drawsIn : Code → Bool
  | .region _ ops true => drawOk ops (masks ops.toList [])
  | .seq a b => drawsIn a && drawsIn b
  | .cond _ a b => drawsIn a && drawsIn b
  | .block _ c => drawsIn c
  | .loop c => drawsIn c
  | _ => true
theorem dstIn_ok : ∀ {l : List Oper}, dstIn nt l = true → ∀ (i : Nat) (o : Oper), l[i]? = some o → ∀ d, o.dst = some d → d < nt
  | [], _, i, o, h => by simp at h
  | o' :: r, hd, i, o, h => by
    simp only [dstIn, Bool.and_eq_true] at hd
    cases i with
    | zero =>
      simp at h
      subst h
      intro d e
      have := hd.1
      rw [e] at this
      exact Nat.le_of_ble_eq_true this
    | succ i => exact dstIn_ok hd.2 i o (by simpa using h)

theorem exec_ok {cx : Cx u R} (hT : TOk P cx.T) (hO : OrcOk P cx.o.fn) (hME : OrcsME cx.o) {f : FuncId} {hn : Hn} {ls : List Code} (hL : LpOk P cx.o.lp f nt ls) {m : Nat} (hm : fx.m = m) : ∀ (c : Code), codeIn nt c = true → drawsIn c = true → (∀ l ∈ loopsOf c, findL (loopId l) ls = some l) →
    ∀ {K : Ex → St u → Option R} {z : R} {Q : Exit → Act → World → Prop} {σ : St u} {a : Act} {w : World} {V : Nat → Value} {Im : Nat → Prop}, Rel fx nt V Im σ a w →
      (∀ e σ' a' V' Im' w', K e σ' = some z → Rel fx nt V' Im' σ' a' w' → Q (exOf e) a' w') → exec cx f hn m c K σ = some z → c.wp P Q a w := by
  intro c
  induction c with
  | skip => intro _ _ _ K z Q σ a w V Im h hK hk; exact wp_skip (hK .normal _ _ _ _ _ hk h)
  | exit id => intro _ _ _ K z Q σ a w V Im h hK hk; exact wp_exit (hK (.exit id) _ _ _ _ _ hk h)
  | ret => intro _ _ _ K z Q σ a w V Im h hK hk; exact wp_ret (hK .ret _ _ _ _ _ hk h)
  | region id ops d =>
    intro hc hdr _ K z Q σ a w V Im h hK hk
    cases d with
    | true =>
      simp only [exec] at hk
      have hdr : drawOk ops (masks ops.toList []) = true := hdr
      simp only [drawOk, Bool.and_eq_true] at hdr
      have hu : upTo 0 ops.toList.length = List.range' 0 ops.size := by rw [upTo_eq]; rfl
      rw [hu] at hk
      obtain ⟨A, σ', t1, t2, t3, t4, t5⟩ := execDy_tr hME ops.size 0 hk (fun x hx => by cases hx)
      rw [← List.range_eq_range'] at t1
      refine wp_region_draw fun t => ?_
      have h' : Rel fx nt V Im σ a { w with drawn := w.drawn + 1 } := h.step (us := []) h.inv.drew
      refine execIxD_ok hT hO (fun i o ho => dstIn_ok hc i o (by simpa using ho)) (fun σ' a' V' Im' w' hk' h' => hK .normal _ _ _ _ _ hk' h') _ h'
        (tr_exec (K := K .normal) t2 (sched_tr hME (n := ops.size) (fun i j hi hj => ?_) (schedule_sched hdr.1.1 hdr.1.2 _ t) List.pairwise_lt_range (fun i hi => List.mem_range.1 hi) t1))
      rcases pairsOk_ok hdr.2 i j hi hj with h1 | h1
      · exact .inl h1
      · rcases t5 i j (Nat.zero_le _) hj (by omega) with h2 | h2
        · exact .inl h2
        · exact .inr ⟨h1, h2⟩
    | false =>
      simp only [exec] at hk
      refine wp_region ?_
      have : upTo 0 ops.toList.length = List.range ops.size := by rw [upTo_eq, List.range_eq_range']; rfl
      rw [this] at hk
      exact execIx_ok hT hO (fun i o ho => dstIn_ok hc i o (by simpa using ho)) (fun σ' a' V' Im' w' hk' h' => hK .normal _ _ _ _ _ hk' h') _ h hk
  | seq x y ihx ihy =>
    intro hc hdr hl K z Q σ a w V Im h hK hk
    simp only [codeIn, Bool.and_eq_true] at hc
    simp only [drawsIn, Bool.and_eq_true] at hdr
    simp only [exec] at hk
    refine wp_seq (ihx hc.1 hdr.1 (fun l hl' => hl l (by simp [loopsOf, hl'])) h (fun e σ' a' V' Im' w' hk' h' => ?_) hk)
    cases e with
    | normal => exact ihy hc.2 hdr.2 (fun l hl' => hl l (by simp [loopsOf, hl'])) h' hK hk'
    | exit id => exact hK (.exit id) _ _ _ _ _ hk' h'
    | ret => exact hK .ret _ _ _ _ _ hk' h'
  | cond c x y ihx ihy =>
    intro hc hdr hl K z Q σ a w V Im h hK hk
    simp only [codeIn, Bool.and_eq_true] at hc
    simp only [drawsIn, Bool.and_eq_true] at hdr
    have hlx : ∀ l ∈ loopsOf x, findL (loopId l) ls = some l := fun l hl' => hl l (by simp [loopsOf, hl'])
    have hly : ∀ l ∈ loopsOf y, findL (loopId l) ls = some l := fun l hl' => hl l (by simp [loopsOf, hl'])
    cases c with
    | tmp s =>
      simp only [exec] at hk
      split at hk
      · rename_i t ht
        obtain ⟨h1, h2⟩ := h.bool ht
        cases t with
        | true => exact wp_cond_true h1 (ihx hc.1 hdr.1 hlx h2 hK hk)
        | false => exact wp_cond_false h1 (ihy hc.2 hdr.2 hly h2 hK hk)
      · cases hk
    | const v =>
      cases v <;> simp only [exec] at hk <;> try (cases hk; done)
      rename_i t
      cases t with
      | true => exact wp_cond_true rfl (ihx hc.1 hdr.1 hlx h hK hk)
      | false => exact wp_cond_false rfl (ihy hc.2 hdr.2 hly h hK hk)
    | _ => simp only [exec] at hk; cases hk
  | block id c ih =>
    intro hc hdr hl K z Q σ a w V Im h hK hk
    simp only [exec] at hk
    refine wp_block (ih hc hdr hl h (fun e σ' a' V' Im' w' hk' h' => ?_) hk)
    cases e with
    | normal => exact hK .normal _ _ _ _ _ hk' h'
    | exit i =>
      simp only at hk'
      show (if i = id then Q .normal a' w' else Q (.exit i) a' w')
      cases hb : Nat.beq i id with
      | true =>
        rw [hb] at hk'
        rw [if_pos (Nat.eq_of_beq_eq_true hb)]
        exact hK .normal _ _ _ _ _ hk' h'
      | false =>
        rw [hb] at hk'
        rw [if_neg (fun e => by rw [e] at hb; simp at hb)]
        exact hK (.exit i) _ _ _ _ _ hk' h'
    | ret => exact hK .ret _ _ _ _ _ hk' h'
  | loop c ih =>
    intro hc hdr hl K z Q σ a w V Im h hK hk
    simp only [exec] at hk
    refine LoopWp.enter ?_
    split at hk
    · rename_i n hm
      clear hm
      induction n generalizing σ a w V Im with
      | zero => cases hk
      | succ n ihn =>
        refine LoopWp.round (ih hc hdr (fun l hl' => hl l (by simp [loopsOf, hl'])) h (fun e σ' a' V' Im' w' hk' h' => ?_) hk)
        cases e with
        | normal => exact ihn h' hk'
        | exit id => exact hK (.exit id) _ _ _ _ _ hk' h'
        | ret => exact hK .ret _ _ _ _ _ hk' h'
    · rename_i hd ex rt hmm
      split at hk
      · rename_i σ' hno
        obtain ⟨V', Im', h'⟩ := norm_ok h hm hno
        exact hL _ _ σ' K z hk c (hl c (by simp [loopsOf])) fx V' Im' a w Q hm h' hK
      · cases hk
    · cases hk
  | _ => intro _ _ _ K z Q σ a w V Im h hK hk; simp only [exec] at hk; cases hk
end
end Go.Proofs.YtmppaodhihnejaaGreat.M
