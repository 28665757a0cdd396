/- Operations and regions, carried out. -/
import Derived.Test.YtmppaodhihnejaaGreatCall
set_option linter.unusedVariables false
namespace Go.Proofs.YtmppaodhihnejaaGreat.M
open Go

section
variable {P : Program} {u : Uni} {R : Type} {fx : Fix} {nt : Nat} {V : Nat → Value} {Im : Nat → Prop} {σ : St u} {a : Act} {w : World}

theorem Rel.inv (h : Rel fx nt V Im σ a w) : Inv u fx V w Im σ.ob := ⟨h.hr, h.fr⟩
theorem getD_set (ts : Array Value) (d i : Nat) (v : Value) (hd : d < ts.size) : (ts.setIfInBounds d v).getD i undef = if i = d then v else ts.getD i undef := by
  by_cases e : i = d
  · subst e
    simp [hd]
  · have : d ≠ i := fun h => e h.symm
    simp [Array.getD_eq_getD_getElem?, this, e]
theorem Rel.set (h : Rel fx nt V Im σ a w) {d : Nat} (hd : d < nt) {x : Slot u} {v : Value} (hx : SlR u V (Lv u σ.ob) w Im x v) : Rel fx nt V Im (σ.set d x) (a.put (some d) v) w := by
  refine ⟨h.hr, h.fr, fun i => ?_, by simp [Act.put, h.nt], h.df⟩
  show SlR u V (Lv u σ.ob) w Im (M.upd σ.sl d x i) ((a.tmps.setIfInBounds d v).getD i undef)
  rw [getD_set _ _ _ _ (by rw [h.nt]; exact hd)]
  by_cases e : i = d
  · subst e
    rw [upd_same, if_pos rfl]
    exact hx
  · rw [upd_ne _ _ e, if_neg e]
    exact h.sl i
theorem Rel.put (h : Rel fx nt V Im σ a w) {d : Option Nat} (hd : ∀ i, d = some i → i < nt) {x : Slot u} {v : Value} (hx : SlR u V (Lv u σ.ob) w Im x v) : Rel fx nt V Im (σ.put d x) (a.put d v) w := by
  cases d with
  | none => exact h
  | some d => exact h.set (hd d rfl) hx
theorem Rel.step (h : Rel fx nt V Im σ a w) {V' : Nat → Value} {w' : World} {Im' : Nat → Prop} {us : List (Nat × Ob u)} (s : Step u fx V w Im σ.ob V' w' Im' (upds σ.ob us)) : Rel fx nt V' Im' (σ.obs us) a w' :=
  ⟨s.inv.hr, s.inv.fr, fun i => SlR.ext s.ext (h.sl i), h.nt, h.df⟩

theorem av_ok {L : Nat → Prop} {x : AV0 u} {v : Value} (h : AR0 u V L w Im x v) : AR u V L w Im x.av v := by
  cases x <;> exact h
theorem svs_ok {L : Nat → Prop} {ev : Operand → Slot u} {ρ : Operand → Value} (he : ∀ x, SlR u V L w Im (ev x) (ρ x)) : ∀ {xs : List Operand} {l : List (SV u)}, svs (xs.map ev) = some l → R2 (SR u V L w Im) l (xs.map ρ)
  | [], l, h => by cases h; trivial
  | x :: xs, l, h => by
    have hx := he x
    simp only [List.map_cons] at h
    unfold svs at h
    split at h
    · rename_i e; cases e
    · rename_i a r e
      injection e with e1 e2
      subst e2
      split at h
      · rename_i l' hl
        cases h
        rw [e1] at hx
        exact ⟨hx, svs_ok he hl⟩
      · cases h
    · cases h

/-- An operation is carried out. -/
theorem op_okD {cx : Cx u R} (hT : TOk P cx.T) (hO : OrcOk P cx.o.fn) (h : Rel fx nt V Im σ a w) {o : Oper} (hd : ∀ i, o.dst = some i → i < nt) {dk : Nat} {K : St u → Option R} {z : R} (hk : opKd cx dk o σ K = some z)
    {next : Act → World → Prop} {Q : Exit → Act → World → Prop} (hn : ∀ σ' a' V' Im' w', K σ' = some z → Rel fx nt V' Im' σ' a' w' → next a' w') : o.wp P a w next Q := by
  have he := fun x => ev_ok (L := Lv u σ.ob) h.sl x
  unfold opKd at hk
  have fin : ∀ x us V' Im' w' val, K ((σ.obs us).put o.dst x) = some z → Step u fx V w Im σ.ob V' w' Im' (upds σ.ob us) → SlR u V' (Lv u (upds σ.ob us)) w' Im' x val → next (a.put o.dst val) w' :=
    fun x us V' Im' w' val hk s hx => hn _ _ V' Im' w' hk ((h.step s).put hd hx)
  cases hc : noCall o.op with
  | true =>
    obtain ⟨n, x, us, val, V', w', Im', h1, h2, h3, h4, h5⟩ := sem_done (P := P) hT h.inv he o hc hk
    unfold Oper.wp
    rw [h1]
    rcases h2 with rfl | ⟨rfl, rfl⟩
    · exact fin x us V' Im' w' val h3 h4 h5
    · exact fin x us V' Im' w' undef h3 h4 h5
  | false =>
    have give : ∀ f vs, (execOp a.eval o).run P w = (callFunc f vs).run P w → Gives P f vs w (fun v w' => ∃ x us V' Im', K ((σ.obs us).put o.dst x) = some z ∧ Step u fx V w Im σ.ob V' w' Im' (upds σ.ob us) ∧ SlR u V' (Lv u (upds σ.ob us)) w' Im' x v) → o.wp P a w next Q := by
      intro f vs e hg
      unfold Oper.wp
      rw [e]
      rcases hg with ⟨h1, h2⟩ | ⟨v, w', h1, x, us, V', Im', g1, g2, g3⟩
      · rw [h1, Oper.upon_enter]
        intro cs
        obtain ⟨e, w', fr, ⟨v, e1, x, us, V', Im', g1, g2, g3⟩, h3⟩ := h2 cs
        subst e1
        exact ⟨_, w', fr, fin x us V' Im' w' v g1 g2 g3, h3⟩
      · rw [h1, Oper.upon_value]
        exact fin x us V' Im' w' v g1 g2 g3
    obtain ⟨dst, op, ty, pos, af, gd⟩ := o
    simp only at hk hc hd fin give
    cases op <;> try (cases hc; done)
    rename_i c
    obtain ⟨callee, args, ats⟩ := c
    cases callee with
    | builtin b => cases hc
    | invoke r n => simp only [sem] at hk; cases hk
    | value g =>
      simp only [sem] at hk
      split at hk
      · rename_i f args' hg hargs
        have hg' := he g
        rw [hg] at hg'
        have hgv : a.eval g = .func (.func f) #[] #[] := hg'.1
        refine give f (args.toList.map a.eval).toArray ?_ (callOp_ok hO h.inv (svs_ok he hargs) hk)
        have : (args.toList.map a.eval).toArray = args.map a.eval := by apply Array.ext'; simp
        rw [this]
        simp [execOp, resolve, Deferred.ofValue, hgv, invoke]
      · rename_i f caps args' hg hargs
        have hg' := he g
        rw [hg] at hg'
        obtain ⟨cs, hgv, hcs⟩ := hg'
        have hR : R2 (SR u V (Lv u σ.ob) w Im) (args' ++ caps.map fun a => .v a.av) (args.toList.map a.eval ++ cs) := by
          refine (svs_ok he hargs).app (R2.mapL _ (hcs.mono fun _ _ hx => av_ok hx))
        refine give f (args.toList.map a.eval ++ cs).toArray ?_ (callOp_ok hO h.inv hR hk)
        have : (args.toList.map a.eval ++ cs).toArray = args.map a.eval ++ cs.toArray := by apply Array.ext'; simp
        rw [this]
        simp [execOp, resolve, Deferred.ofValue, hgv, invoke]
      · cases hk
theorem findK_some {lk : Nat → Ob u} {k : Nat → Option R} {z : R} : ∀ {n d : Nat}, findK lk k n d = some z → ∃ d', k d' = some z
  | n + 1, d, h => by
    simp only [findK] at h
    split at h
    · exact ⟨d, h⟩
    · exact findK_some h
theorem findK_fresh {lk : Nat → Ob u} {k : Nat → Option R} {n d : Nat} (h : lk d = .fresh) : findK lk k (n + 1) d = k d := by simp only [findK, h]
theorem op_ok {cx : Cx u R} (hT : TOk P cx.T) (hO : OrcOk P cx.o.fn) (h : Rel fx nt V Im σ a w) {o : Oper} (hd : ∀ i, o.dst = some i → i < nt) {K : St u → Option R} {z : R} (hk : opK cx o σ K = some z)
    {next : Act → World → Prop} {Q : Exit → Act → World → Prop} (hn : ∀ σ' a' V' Im' w', K σ' = some z → Rel fx nt V' Im' σ' a' w' → next a' w') : o.wp P a w next Q := by
  unfold opK withK at hk
  cases hu : usesK o.op with
  | true =>
    rw [hu, cond_true] at hk
    obtain ⟨dk, hk⟩ := findK_some hk
    exact op_okD hT hO h hd hk hn
  | false =>
    rw [hu, cond_false] at hk
    exact op_okD hT hO h hd hk hn
theorem nthO_eq : ∀ (l : List Oper) (i : Nat), nthO l i = l[i]?
  | [], _ => rfl
  | _ :: _, 0 => rfl
  | _ :: r, n + 1 => by simp [nthO, nthO_eq r n]
theorem nthO_ops (ops : Array Oper) (i : Nat) : nthO ops.toList i = ops[i]? := by rw [nthO_eq, Array.getElem?_toList]
theorem upTo_eq : ∀ (k n : Nat), upTo n k = List.range' n k
  | 0, n => rfl
  | k + 1, n => by rw [upTo, upTo_eq k, List.range'_succ]
theorem rdBool_eq {x : Slot u} {b : Bool} (h : rdBool x = some b) : x = one (cBool b) := by
  unfold rdBool at h
  split at h
  · cases h; rfl
  · cases h
theorem allIn_mem {l : List Nat} : ∀ {r : List Nat}, allIn l r = true → ∀ k ∈ r, k ∈ l
  | [], _, k, h => by simp at h
  | x :: r, hr, k, h => by
    simp only [allIn, Bool.and_eq_true] at hr
    cases h with
    | head => exact memN_iff.1 hr.1
    | tail _ h => exact allIn_mem hr.2 k h
end
end Go.Proofs.YtmppaodhihnejaaGreat.M
