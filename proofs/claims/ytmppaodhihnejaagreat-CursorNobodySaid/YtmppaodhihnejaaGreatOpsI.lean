/- All operations but calls of functions. -/
import Derived.Test.YtmppaodhihnejaaGreatClear
set_option linter.unusedVariables false
namespace Go.Proofs.YtmppaodhihnejaaGreat.M
open Go

section
variable {P : Program} {u : Uni} {R : Type} {fx : Fix} {V : Nat → Value} {w : World} {Im : Nat → Prop} {ob : Nat → Ob u}

theorem constAs_ok {L : Nat → Prop} : ∀ {vs : List Value} {l : List (AV u)}, constAs vs = some l → R2 (AR u V L w Im) l vs
  | [], l, h => by
    cases h
    trivial
  | v :: vs, l, h => by
    have hv : ∀ l', constAs vs = some l' → v.oneCell' = true → constA v :: l' = l → R2 (AR u V L w Im) l (v :: vs) := by
      rintro l' h1 h2 rfl
      exact ⟨constA_ok v h2, constAs_ok h1⟩
    unfold constAs at h
    split at h
    · rename_i e
      cases e
    · cases h
    · cases h
    · rename_i v' r h1 h2 e
      cases e
      split at h
      · rename_i l' hl
        cases h
        exact hv l' hl (by cases v <;> first | rfl | (exfalso; exact h1 _ rfl) | (exfalso; exact h2 _ rfl)) rfl
      · cases h
theorem constV_ok {L : Nat → Prop} (v : Value) : SlR u V L w Im (constV v) v := by
  unfold constV
  split
  · rename_i cs
    split
    · rename_i l hl
      exact ⟨cs.toList, by simp, constAs_ok hl⟩
    · trivial
  · trivial
  · rename_i h1 h2
    exact constA_ok v (by cases v <;> first | rfl | (exfalso; exact h1 _ rfl) | (exfalso; exact h2 _ rfl))
theorem ev_ok {L : Nat → Prop} {σ : St u} {a : Act} (h : ∀ i, SlR u V L w Im (σ.sl i) (a.tmps.getD i undef)) (x : Operand) : SlR u V L w Im (σ.ev x) (a.eval x) := by
  cases x with
  | tmp t => exact h t
  | const v => exact constV_ok v
  | global g => exact ⟨rfl, rfl⟩
  | func f => exact ⟨rfl, rfl⟩

theorem buildOp_ok {T : TypeId → Option (TI u)} (hT : TOk P T) {L : Nat → Prop} {t : TypeId} {parts : List (Nat × Slot u)} {pv : Array (Nat × Value)}
    (hp : R2 (fun (a : Nat × Slot u) (b : Nat × Value) => a.1 = b.1 ∧ SlR u V L w Im a.2 b.2) parts pv.toList)
    {kk : Slot u → Option R} {z : R} (hk : buildOp (T t) (eltOf T t) parts kk = some z) : PureS P u V L w Im (Instr.build t pv) kk z := by
  unfold buildOp at hk
  split at hk
  · rename_i ti ht
    obtain ⟨i, zv, i1, i2, i3, i4, i5⟩ := zero_AR hT ht V L w Im
    have hti := hT _ _ ht
    cases hc : buildable ti.kind (eltOf T t) with
    | false => rw [hc] at hk; cases hk
    | true =>
    rw [hc, cond_true] at hk
    split at hk
    · rename_i cs hfill
      obtain ⟨vs', h1, h2⟩ := fillA_ok (w := w) (Im := Im) i5 hp hfill
      have hb : P.built t pv.toList = some vs'.toArray := by
        unfold Program.built
        unfold buildable at hc
        split at hc
        · rename_i fs hkd
          have hkk := hti.kd
          rw [hkd] at hkk
          obtain ⟨fields, hu, hf, hm⟩ := hkk
          have e : offsOf (T t) (eltOf T t) = fun i => (fs.map fun p => (p.1, p.2.1)).toArray[i]? := by
            funext j
            obtain ⟨kd, a, b, c, d, f⟩ := ti
            simp only at hkd
            subst hkd
            simp only [ht, offsOf]
            simp only [List.getElem?_toArray, List.getElem?_map]
            cases fs[j]? with
            | none => rfl
            | some p => rfl
          rw [e] at h1
          simp only [i1, hu, i4, hm]
          exact h1
        · rename_i n e' te hkd hte
          have hkk := hti.kd
          rw [hkd] at hkk
          have hu : P.underlying t = some (.array n e') := hkk
          have e0 : eltOf T t = T e' := by
            obtain ⟨kd, a, b, c, d, f⟩ := ti
            simp only at hkd
            subst hkd
            simp only [eltOf, ht]
          rw [e0] at hte
          obtain ⟨i', _, j1, j2, _⟩ := zero_AR hT hte V L w Im
          have e : offsOf (T t) (eltOf T t) = fun j => some (j * i'.size, i'.size) := by
            funext j
            obtain ⟨kd, a, b, c, d, f⟩ := ti
            simp only at hkd
            subst hkd
            simp only [ht, e0, hte, offsOf, j2]
          rw [e] at h1
          simp only [i1, hu, i4, j1]
          exact h1
        · cases hc
      refine ⟨_, _, run_build (P := P) w t pv _ hb, hk, vs', rfl, h2⟩
    · cases hk
  · cases hk
theorem bnd_ok {L : Nat → Prop} {x : Slot u} {v : Value} (h : SlR u V L w Im x v) {n : Int} (hn : bnd x = some n) : ∃ k, v = .int k n := by
  unfold bnd at hn
  split at hn
  · rename_i k n'
    cases hn
    exact ⟨k, CR.int_inv (show CR u w Im v ⟨.int k, n⟩ from h)⟩
  · cases hn
theorem bndO_ok {L : Nat → Prop} {ev : Operand → Slot u} {ρ : Operand → Value} (he : ∀ x, SlR u V L w Im (ev x) (ρ x)) {o : Option Operand} {b : Option Int} (h : bndO ev o = some b) : BR b (o.map ρ) := by
  cases o with
  | none => cases h; trivial
  | some o =>
    simp only [bndO] at h
    split at h
    · rename_i n hn
      cases h
      exact bnd_ok (he o) hn
    · cases h
theorem av0s_ok {L : Nat → Prop} : ∀ {l : List (AV u)} {l0 : List (AV0 u)} {vs : List Value}, av0s l = some l0 → R2 (AR u V L w Im) l vs → R2 (AR0 u V L w Im) l0 vs
  | [], l0, [], h, _ => by cases h; trivial
  | [], _, _ :: _, _, h => h.elim
  | _ :: _, _, [], _, h => h.elim
  | a :: l, l0, v :: vs, h, hr => by
    simp only [av0s] at h
    split at h
    · rename_i b bs hb hbs
      cases h
      refine ⟨?_, av0s_ok hbs hr.2⟩
      have := hr.1
      cases a <;> cases hb <;> exact this
    · cases h
theorem avs_ok {L : Nat → Prop} {ev : Operand → Slot u} {ρ : Operand → Value} (he : ∀ x, SlR u V L w Im (ev x) (ρ x)) : ∀ {xs : List Operand} {l : List (AV u)}, avs (xs.map ev) = some l → R2 (AR u V L w Im) l (xs.map ρ)
  | [], l, h => by cases h; trivial
  | x :: xs, l, h => by
    have hx := he x
    simp only [List.map_cons] at h
    unfold avs at h
    split at h
    · rename_i e; cases e
    · rename_i a r e
      injection e with e1 e2
      subst e2
      split at h
      · rename_i l' hl
        cases h
        rw [e1] at hx
        exact ⟨hx, avs_ok he hl⟩
      · cases h
    · cases h

/-- What an operation comes to: a value or nothing. -/
def DoneN (P : Program) (u : Uni) (fx : Fix) (V : Nat → Value) (w : World) (Im : Nat → Prop) (ob : Nat → Ob u) (m : Sem Next) (kk : Kt u R) (z : R) : Prop :=
  ∃ n x us val V' w' Im', m.run P w = .ok n w' ∧ (n = .value val ∨ (n = .skip ∧ val = undef)) ∧ kk x us = some z ∧ Step u fx V w Im ob V' w' Im' (upds ob us) ∧ SlR u V' (Lv u (upds ob us)) w' Im' x val

theorem Done.next {m : Sem Value} {kk : Kt u R} {z : R} (h : Done P u fx V w Im ob m kk z) : DoneN P u fx V w Im ob (do pure (.value (← m))) kk z := by
  obtain ⟨x, us, val, V', w', Im', h1, h2, h3, h4⟩ := h
  exact ⟨.value val, x, us, val, V', w', Im', by simp [h1, Result.andThen], .inl rfl, h2, h3, h4⟩
theorem DoneN.unit {m : Sem Unit} {kk : Kt u R} {z : R} (h : ∃ us w' Im', m.run P w = .ok () w' ∧ kk .dead us = some z ∧ Step u fx V w Im ob V w' Im' (upds ob us)) : DoneN P u fx V w Im ob (do m; pure .skip) kk z := by
  obtain ⟨us, w', Im', h1, h2, h3⟩ := h
  exact ⟨.skip, .dead, us, undef, V, w', Im', by simp [h1, Result.andThen], .inr ⟨rfl, rfl⟩, h2, h3, trivial⟩
theorem DoneN.val (h : Inv u fx V w Im ob) {x : Slot u} {v : Value} {kk : Kt u R} {z : R} (hx : SlR u V (Lv u ob) w Im x v) (hk : kk x [] = some z) : DoneN P u fx V w Im ob (pure (.value v)) kk z :=
  ⟨_, x, [], v, V, w, Im, rfl, .inl rfl, hk, .refl h, hx⟩
theorem Done.of {m : Sem Value} {kk : AV u → List (Nat × Ob u) → Option R} {kk' : Kt u R} (hkk : ∀ r us, kk r us = kk' (one r) us) {z : R}
    (h : ∃ val r us V' w' Im', m.run P w = .ok val w' ∧ kk r us = some z ∧ Step u fx V w Im ob V' w' Im' (upds ob us) ∧ AR u V' (Lv u (upds ob us)) w' Im' r val) : Done P u fx V w Im ob m kk' z := by
  obtain ⟨val, r, us, V', w', Im', h1, h2, h3, h4⟩ := h
  exact ⟨one r, us, val, V', w', Im', h1, by rw [← hkk]; exact h2, h3, h4⟩

theorem blt_len {T : TypeId → Option (TI u)} (hT : TOk P T) (h : Inv u fx V w Im ob) {t : TypeId} {ti : TI u} (ht : T t = some ti) {a : AV u} {v : Value} (ha : AR u V (Lv u ob) w Im a v) {n : Nat} (hn : lenA ob ti.kind a = some n) (ty : TypeId) {kk : Kt u R} {z : R} (hk : kk (one (cInt .i64 n)) [] = some z) :
    Done P u fx V w Im ob (Builtin.len_ #[t] ty #[v]) kk z :=
  ⟨_, [], _, V, w, Im, lenA_ok h.hr (hT _ _ ht).kd ha hn, hk, .refl h, .int _ _⟩

theorem ints_ok {L : Nat → Prop} {x y : Slot u} {v v' : Value} (hx : SlR u V L w Im x v) (hy : SlR u V L w Im y v') {k k' : IntKind} {a b : Int} (h : ints [x, y] = some [(k, a), (k', b)]) : v = .int k a ∧ v' = .int k' b := by
  unfold ints at h
  split at h
  · rename_i e; cases e
  · rename_i k1 n1 r e
    injection e with e1 e2
    subst e1 e2
    split at h
    · rename_i l hl
      unfold ints at hl
      split at hl
      · rename_i e; cases e
      · rename_i k2 n2 r e
        injection e with e1 e2
        subst e1 e2
        split at hl
        · rename_i l' hl'
          cases hl
          cases h
          exact ⟨CR.int_inv (show CR u w Im v ⟨.int k, a⟩ from hx), CR.int_inv (show CR u w Im v' ⟨.int k', b⟩ from hy)⟩
        · cases hl
      · cases hl
    · cases h
  · cases h

theorem blt_ok {T : TypeId → Option (TI u)} (hT : TOk P T) (h : Inv u fx V w Im ob) {ev : Operand → Slot u} {ρ : Operand → Value} (he : ∀ x, SlR u V (Lv u ob) w Im (ev x) (ρ x)) {dk : Nat} {b : Builtin} {ts : Array TypeId} {xs : Array Operand} (ty : TypeId) (cs : Array Bool)
    {kk : Kt u R} {z : R} (hk : bltOp T ob dk b ts.toList (xs.toList.map ev) kk = some z) : DoneN P u fx V w Im ob (builtin b ts ty cs (xs.map ρ)) kk z := by
  obtain ⟨ts⟩ := ts
  obtain ⟨xs⟩ := xs
  have eρ : (⟨xs⟩ : Array Operand).map ρ = (xs.map ρ).toArray := by simp
  rw [eρ]
  simp only at hk
  have one1 : ∀ s, xs.map ev = [s] → ∃ x, xs = [x] ∧ ev x = s := by
    intro s e
    match xs, e with
    | [x], e => injection e with e _; exact ⟨x, rfl, e⟩
  have two : ∀ s s', xs.map ev = [s, s'] → ∃ x y, xs = [x, y] ∧ ev x = s ∧ ev y = s' := by
    intro s s' e
    match xs, e with
    | [x, y], e => injection e with e e'; injection e' with e' _; exact ⟨x, y, rfl, e, e'⟩
  unfold bltOp at hk
  split at hk
  · rename_i a e
    obtain ⟨x, rfl, hx⟩ := one1 _ e
    have hx' := he x
    rw [hx] at hx'
    split at hk
    · rename_i t
      split at hk
      · rename_i ti ht
        split at hk
        · rename_i n hn
          exact (blt_len hT h ht hx' hn ty hk).next
        · cases hk
      · cases hk
    · cases hk
  · rename_i a e
    obtain ⟨x, rfl, hx⟩ := one1 _ e
    have hx' := he x
    rw [hx] at hx'
    split at hk
    · rename_i t
      split at hk
      · rename_i e' _ _ _ _ _ ht
        have hu : P.underlying t = some (.slice e') := (hT _ _ ht).kd
        split at hk
        · rename_i τ l
          obtain ⟨⟨A, hv⟩, _⟩ := hx'
          exact Done.next (m := Builtin.cap_ #[t] ty #[ρ x]) ⟨_, [], .int .i64 l.length, V, w, Im, by rw [hv]; simp [Builtin.cap_, run_underlying hu, goInt], hk, .refl h, .int _ _⟩
        · obtain ⟨A, hv⟩ := hx'
          exact Done.next (m := Builtin.cap_ #[t] ty #[ρ x]) ⟨_, [], .int .i64 0, V, w, Im, by rw [hv]; simp [Builtin.cap_, run_underlying hu, goInt], hk, .refl h, .int _ _⟩
        · cases hk
      · cases hk
    · cases hk
  · rename_i x y e
    obtain ⟨x', y', rfl, hx, hy⟩ := two _ _ e
    have hx' := he x'
    have hy' := he y'
    rw [hx] at hx'
    rw [hy] at hy'
    split at hk
    · rename_i k a k' b hi
      obtain ⟨e1, e2⟩ := ints_ok hx' hy' hi
      exact Done.next (m := Builtin.max_ ⟨ts⟩ ty #[ρ x', ρ y']) ⟨_, [], .int k (mx2 a b), V, w, Im, by rw [e1, e2]; rfl, hk, .refl h, .int _ _⟩
    · cases hk
  · rename_i x y e
    obtain ⟨x', y', rfl, hx, hy⟩ := two _ _ e
    have hx' := he x'
    have hy' := he y'
    rw [hx] at hx'
    rw [hy] at hy'
    split at hk
    · rename_i k a k' b hi
      obtain ⟨e1, e2⟩ := ints_ok hx' hy' hi
      exact Done.next (m := Builtin.min_ ⟨ts⟩ ty #[ρ x', ρ y']) ⟨_, [], .int k (mn2 a b), V, w, Im, by rw [e1, e2]; rfl, hk, .refl h, .int _ _⟩
    · cases hk
  · rename_i a x e
    obtain ⟨x', y', rfl, hx, hy⟩ := two _ _ e
    have hx' := he x'
    have hy' := he y'
    rw [hx] at hx'
    rw [hy] at hy'
    split at hk
    · rename_i t tx
      split at hk
      · rename_i e' _ _ _ _ _ ht
        have hu : P.underlying t = some (.slice e') := (hT _ _ ht).kd
        exact (Done.of (fun _ _ => rfl) (apOp_ok (ty := ty) hT h hu (tx := tx) hx' hy' hk)).next
      · cases hk
    · cases hk
  · rename_i a e
    obtain ⟨x, rfl, hx⟩ := one1 _ e
    have hx' := he x
    rw [hx] at hx'
    split at hk
    · rename_i t
      split at hk
      · rename_i e' _ _ _ _ _ ht
        have hu : P.underlying t = some (.slice e') := (hT _ _ ht).kd
        obtain ⟨us, w', h1, h2, h3⟩ := clrOp_ok (ty := ty) hT h hu hx' hk
        exact Done.next (m := Builtin.clear_ #[t] ty #[ρ x]) ⟨_, us, .tuple #[], V, w', Im, h1, h2, h3, [], rfl, trivial⟩
      · cases hk
    · cases hk
  · cases hk
theorem bs_done {T : TypeId → Option (TI u)} (hT : TOk P T) (h : Inv u fx V w Im ob) {t e : TypeId} {ti : TI u} (ht : P.underlying t = some (.slice e)) (hte : T e = some ti) {len : Nat}
    {parts : List (Nat × Slot u)} {pv : Array (Nat × Value)} (hp : R2 (fun (a : Nat × Slot u) (b : Nat × Value) => a.1 = b.1 ∧ SlR u V (Lv u ob) w Im a.2 b.2) parts pv.toList)
    {dk : Nat} {kk : Kt u R} {z : R} (hk : bsOp ob dk e (some ti) len parts (fun r us => kk (one r) us) = some z) : Done P u fx V w Im ob (Instr.buildSlice t len pv) kk z :=
  Done.of (fun _ _ => rfl) (buildSlice_ok hT h ht hte hp hk)

/-- An operation that calls no function of the program. -/
def noCall : Op → Bool
  | .call c => match c.callee with
    | .builtin _ => true
    | _ => false
  | _ => true

set_option maxHeartbeats 400000 in
theorem sem_done {cx : Cx u R} (hT : TOk P cx.T) (h : Inv u fx V w Im ob) {ev : Operand → Slot u} {ρ : Operand → Value} (he : ∀ x, SlR u V (Lv u ob) w Im (ev x) (ρ x)) {dk : Nat} (o : Oper) (hnc : noCall o.op = true)
    {kk : Kt u R} {z : R} (hk : sem cx ev ob dk o.op kk = some z) : DoneN P u fx V w Im ob (execOp ρ o) kk z := by
  obtain ⟨dst, op, ty, pos, af, gd⟩ := o
  simp only at hk hnc
  cases op with
  | move x => exact DoneN.val h (he x) hk
  | assign x => exact DoneN.val h (he x) hk
  | pick c a b =>
    simp only [sem] at hk
    split at hk
    · rename_i t hc
      have hx := he c
      rw [hc] at hx
      have := CR.bool_inv (show CR u w Im (ρ c) ⟨.bool, t⟩ from hx)
      cases t with
      | true => exact ⟨_, ev a, [], ρ a, V, w, Im, by simp [execOp, this, asBool], .inl rfl, hk, .refl h, he a⟩
      | false => exact ⟨_, ev b, [], ρ b, V, w, Im, by simp [execOp, this, asBool], .inl rfl, hk, .refl h, he b⟩
    · cases hk
  | alloc t =>
    simp only [sem] at hk
    split at hk
    · rename_i ti ht
      obtain ⟨i, zv, i1, i2, i3, i4, i5⟩ := zero_AR hT ht V (Lv u ob) w Im
      obtain ⟨V', us, r, h1, h2, h3⟩ := boxOp_ok h i5 t dk hk
      exact Done.next ⟨one r, us, _, V', _, Im, run_alloc i1 i4, h1, h2, h3⟩
    · cases hk
  | box t x =>
    simp only [sem] at hk
    split at hk
    · rename_i ti x' ht hx
      have hx' := he x
      rw [hx] at hx'
      cases hb : (Nat.beq x'.cells.length ti.size && noDead x'.cells) with
      | false => rw [hb] at hk; cases hk
      | true =>
        rw [hb, cond_true] at hk
        rw [Bool.and_eq_true] at hb
        have hR := SR.cells hx' (fun a e => by subst e; exact AR.one hx' (noDead_ne hb.2 a (by simp [SV.cells])))
        obtain ⟨V', us, r, h1, h2, h3⟩ := boxOp_ok h hR t dk hk
        exact Done.next ⟨one r, us, _, V', _, Im, run_box _, h1, h2, h3⟩
    · cases hk
  | build t ps =>
    simp only [sem] at hk
    exact ((buildOp_ok hT (pv := ps.map fun p => (p.1, ρ p.2)) (by rw [Array.toList_map]; exact R2_parts he ps.toList) hk).done h (fun _ => rfl)).next
  | buildSlice t len ps =>
    simp only [sem] at hk
    split at hk
    · rename_i e _ _ _ _ _ ht
      have hu : P.underlying t = some (.slice e) := (hT _ _ ht).kd
      cases hte : cx.T e with
      | none => rw [hte] at hk; cases hk
      | some te =>
        rw [hte] at hk
        have hb := bs_done hT h hu hte (pv := ps.map fun (i, x) => (i, ρ x)) (by rw [Array.toList_map]; exact R2_parts he ps.toList) hk
        exact hb.next
    · cases hk
  | load t x =>
    simp only [sem] at hk
    split at hk
    · rename_i a hx
      have hx' := he x
      rw [hx] at hx'
      exact ((ldOp_ok hT h.hr hx' hk).done h (fun _ => rfl)).next
    · cases hk
  | store t a x =>
    simp only [sem] at hk
    split at hk
    · rename_i a' x' ha hx
      have ha' := he a
      rw [ha] at ha'
      have hx' := he x
      rw [hx] at hx'
      exact DoneN.unit (stOp_ok hT h ha' hx' hk)
    · cases hk
  | nilCheck x =>
    simp only [sem] at hk
    have hx' := he x
    split at hk
    · rename_i k n hx
      rw [hx] at hx'
      obtain ⟨b, o, e, _⟩ := (show ptrR V (Lv u ob) k n (ρ x) from hx')
      exact ⟨_, _, [], ρ x, V, w, Im, by simp [execOp, e], .inl rfl, hk, .refl h, hx'⟩
    · rename_i τ y o hx
      rw [hx] at hx'
      have hx2 := hx'
      obtain ⟨b, o', e, _⟩ := hx2
      exact ⟨_, _, [], ρ x, V, w, Im, by simp [execOp, e], .inl rfl, hk, .refl h, hx'⟩
    · rename_i k s i o hx
      rw [hx] at hx'
      have hx2 := hx'
      obtain ⟨_, g, n, c, _, e⟩ := hx2
      exact ⟨_, _, [], ρ x, V, w, Im, by simp [execOp, e], .inl rfl, hk, .refl h, hx'⟩
    · cases hk
  | binOp op t x y r =>
    simp only [sem] at hk
    split at hk
    · rename_i a b ti hx hy ht
      have hx' := he x
      rw [hx] at hx'
      have hy' := he y
      rw [hy] at hy'
      exact Done.next ((bOp_ok (hT _ _ ht).kd hx' hy' hk x y).done h (fun _ => rfl))
    · cases hk
  | unOp op t x =>
    simp only [sem] at hk
    split at hk
    · rename_i a hx
      have hx' := he x
      rw [hx] at hx'
      exact Done.next ((uOp_ok hx' hk).done h (fun _ => rfl))
    · cases hk
  | convert s d x =>
    simp only [sem] at hk
    split at hk
    · rename_i a ts td hx hs hd
      have hx' := he x
      rw [hx] at hx'
      refine Done.next (conv_ok h (hT _ _ hs).kd (hT _ _ hd).kd (fun e8 e hke => ?_) (fun e8 hks e hke => ?_) hx' hk (fun _ => rfl))
      · rw [hke] at e8
        simp only at e8
        split at e8
        · rename_i hte
          exact (hT _ _ hte).kd
        · cases e8
      · rw [hke, hks] at e8
        simp only at e8
        split at e8
        · rename_i hte
          exact (hT _ _ hte).kd
        · cases e8
    · cases hk
  | makeFunc fn first caps =>
    simp only [sem] at hk
    split at hk
    · rename_i l h1 h2
      split at hk
      · rename_i l0 h3
        have hf : first = #[] := by
          obtain ⟨f⟩ := first
          simp only at h1
          subst h1
          rfl
        have hr := av0s_ok h3 (avs_ok he h2)
        exact Done.next ⟨_, [], .func fn #[] (caps.toList.map ρ).toArray, V, w, Im, by subst hf; rw [show (caps.toList.map ρ).toArray = caps.map ρ from by apply Array.ext'; simp]; simp [Instr.makeFunc], hk, .refl h, _, rfl, hr⟩
      · cases hk
    · cases hk
  | makeMap t r =>
    simp only [sem] at hk
    split at hk
    · exact Done.next (mkMap_ok h (fun _ _ => rfl) hk)
    · cases hk
  | lookup t m k ok =>
    simp only [sem] at hk
    split at hk
    · rename_i kt e _ _ _ _ _ a b ht hm hkk
      have hu : P.underlying t = some (.map kt e) := (hT _ _ ht).kd
      have hm' := he m
      rw [hm] at hm'
      have hk' := he k
      rw [hkk] at hk'
      exact Done.next ((lookOp_ok hT h hu hm' hk' hk).done h (fun _ => rfl))
    · cases hk
  | mapUpdate t m k x =>
    simp only [sem] at hk
    split at hk
    · rename_i kt e _ _ _ _ _ a b c ht hm hkk hx
      have hu : P.underlying t = some (.map kt e) := (hT _ _ ht).kd
      have hm' := he m
      rw [hm] at hm'
      have hk' := he k
      rw [hkk] at hk'
      have hx' := he x
      rw [hx] at hx'
      obtain ⟨us, w', h1, h2, h3⟩ := mapUpd_ok hT h hu hm' hk' hx' hk
      exact DoneN.unit ⟨us, w', Im, h1, h2, h3⟩
    · cases hk
  | slice t x lo hi mx =>
    simp only [sem] at hk
    split at hk
    · rename_i a ti l hh m hx ht hl hhi hm
      have hx' := he x
      rw [hx] at hx'
      have bl := bndO_ok he hl
      have bh := bndO_ok he hhi
      have bm := bndO_ok he hm
      have hkd := (hT _ _ ht).kd
      split at hk
      · rename_i s hkk
        rw [hkk] at hkd
        have hv := CR.str_inv (show CR u w Im (ρ x) ⟨.str, s⟩ from hx')
        split at hk
        · have := strSlice_ok (V := V) (L := Lv u ob) (Im := Im) (w := w) (u := u) hkd s (CR.str_len (show CR u w Im _ ⟨.str, s⟩ from hx')) bl bh bm (kk := fun r => kk (one r) []) hk
          rw [← hv] at this
          exact Done.next (this.done h (fun _ => rfl))
        · cases hk
      · rename_i e a' hkk
        rw [hkk] at hkd
        split at hk
        · rename_i τ hte
          exact Done.next ((sliceOp_ok h.hr hkd (hT _ _ hte) rfl hx' bl bh bm hk).done h (fun _ => rfl))
        · cases hk
      · cases hk
    · cases hk
  | fieldAddr t x f =>
    simp only [sem] at hk
    split at hk
    · rename_i a hx
      have hx' := he x
      rw [hx] at hx'
      exact Done.next ((faOp_ok hT hx' hk).done h (fun _ => rfl))
    · cases hk
  | field t x f =>
    simp only [sem] at hk
    exact Done.next ((fOp_ok hT (he x) hk).done h (fun _ => rfl))
  | indexAddr t x i =>
    simp only [sem] at hk
    split at hk
    · rename_i a n hx hi
      have hx' := he x
      rw [hx] at hx'
      obtain ⟨k, hk'⟩ := bnd_ok (he i) hi
      have := (iaOp_ok hT h.hr hx' k hk).done h (kk' := kk) (fun _ => rfl)
      rw [← hk'] at this
      exact Done.next this
    · cases hk
  | index t x i =>
    simp only [sem] at hk
    split at hk
    · rename_i n hi
      obtain ⟨k, hk'⟩ := bnd_ok (he i) hi
      have := (ixOp_ok hT (he x) k hk).done h (kk' := kk) (fun _ => rfl)
      rw [← hk'] at this
      exact Done.next this
    · cases hk
  | range t x =>
    simp only [sem] at hk
    split at hk
    · rename_i _ _ _ _ _ s ht hx
      have hu : P.underlying t = some .string := (hT _ _ ht).kd
      have hx' := he x
      rw [hx] at hx'
      have hv := CR.str_inv (show CR u w Im (ρ x) ⟨.str, s⟩ from hx')
      split at hk
      · rename_i hf
        obtain ⟨V', h1, h2, h3⟩ := range_ok h hu hf s
        rw [← hv] at h1
        exact Done.next ⟨_, _, _, V', _, Im, h1, hk, h2, Lv_iff.2 (by show M.upd _ dk _ dk ≠ _; rw [upd_same]; simp), h3.symm, rfl⟩
      · cases hk
    · cases hk
  | next it b =>
    cases b with
    | false => simp only [sem] at hk; cases hk
    | true =>
    simp only [sem] at hk
    split at hk
    · rename_i k hx
      have hx' := he it
      rw [hx] at hx'
      split at hk
      · rename_i s pos ho
        have := next_ok (P := P) h ho hx'.2.1 ty
        by_cases hlp : pos < s.length
        · rw [if_pos hlp] at this
          obtain ⟨w', h1, h2⟩ := this
          have hb : ltN pos s.length = true := Nat.ble_eq_true_of_le hlp
          rw [hb] at hk
          exact Done.next ⟨_, _, _, V, w', Im, h1, hk, h2, _, rfl, .bool _, .int _ _, .int _ _, trivial⟩
        · rw [if_neg hlp] at this
          have hb : ltN pos s.length = false := by
            cases hb : ltN pos s.length with
            | false => rfl
            | true => exact absurd (Nat.le_of_ble_eq_true hb) hlp
          rw [hb] at hk
          exact Done.next ⟨_, _, _, V, w, Im, this, hk, .refl h, _, rfl, .bool _, trivial⟩
      · cases hk
    · cases hk
  | extract x i =>
    simp only [sem] at hk
    split at hk
    · rename_i l hx
      have hx' := he x
      rw [hx] at hx'
      obtain ⟨vs, hv, hr⟩ := hx'
      split at hk
      · rename_i y hy
        obtain ⟨v, hv2, hr2⟩ := hr.get i y hy
        exact Done.next ⟨_, [], v, V, w, Im, by rw [hv]; simp [Instr.extract, hv2], hk, .refl h, hr2⟩
      · cases hk
    · cases hk
  | call c =>
    obtain ⟨callee, args, ats⟩ := c
    cases callee with
    | builtin b =>
      simp only [sem] at hk
      have := blt_ok (P := P) hT h he ty (args.map fun | .const _ => true | _ => false) hk
      obtain ⟨n, x, us, val, V', w', Im', h1, h2⟩ := this
      refine ⟨n, x, us, val, V', w', Im', ?_, h2⟩
      simp only [execOp, resolve, Sem.run_bind, Sem.run_pure, Result.andThen, invoke]
      exact h1
    | _ => cases hnc
  | _ => simp only [sem] at hk; cases hk
end
end Go.Proofs.YtmppaodhihnejaaGreat.M
