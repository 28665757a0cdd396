/- Operations that read, more: fields, indexes, loads, lengths, conversions. -/
import Derived.Test.YtmppaodhihnejaaGreatOpsB
set_option linter.unusedVariables false
namespace Go.Proofs.YtmppaodhihnejaaGreat.M
open Go

section
variable {P : Program} {u : Uni} {R : Type} {V : Nat → Value} {L : Nat → Prop} {w : World} {Im : Nat → Prop}

/-- A pure answer of a slot's kind. -/
def PureS (P : Program) (u : Uni) (V : Nat → Value) (L : Nat → Prop) (w : World) (Im : Nat → Prop) (m : Sem Value) (kk : Slot u → Option R) (z : R) : Prop :=
  ∃ r v, m.run P w = .ok v w ∧ kk r = some z ∧ SlR u V L w Im r v

theorem fieldOf_inv {T : TypeId → Option (TI u)} (hT : TOk P T) {t : TypeId} {f off s : Nat} {g : Bool} (h : fieldOf (T t) f = some (off, s, g)) :
    ∃ fields fd i, P.underlying t = some (.struct fields) ∧ fields[f]? = some fd ∧ fd.offset = off ∧ P.info? fd.type = some i ∧ i.size = s ∧ 0 < s ∧ Program.row? P fd.type = g ∧ (P.underlying fd.type).isSome = true := by
  unfold fieldOf at h
  split at h
  · rename_i fs a b c d e ht
    obtain ⟨fields, hu, hf, _⟩ := (hT t _ ht).kd
    obtain ⟨fd, h1, h2, h3, h4, h5, h6⟩ := hf f off s g h
    obtain ⟨i, hi, hs⟩ := Option.map_eq_some_iff.1 h3
    exact ⟨fields, fd, i, hu, h1, h2, hi, hs, h4, h5, h6⟩
  · cases h

theorem run_fieldAt {t : TypeId} {fields : Array Field} {fd : Field} {f : Nat} {i : TypeInfo} (hu : P.underlying t = some (.struct fields)) (hf : fields[f]? = some fd) (hi : P.info? fd.type = some i) (hs : 0 < i.size) (b o : Nat) :
    (Instr.fieldAt t (.pointer (some ⟨b, o, none⟩)) f).run P w = .ok (.pointer (some ⟨b, o + fd.offset, none⟩)) w := by
  have h0 : ¬ i.size = 0 := by omega
  simp [Instr.fieldAt, run_underlying hu, hf, Instr.sureAddr, fieldPlace, sizeOf, typeInfo, hi, h0, Addr.add_lit]

theorem faOp_ok {T : TypeId → Option (TI u)} (hT : TOk P T) {t : TypeId} {f : Nat} {a : AV u} {v : Value} (ha : AR u V L w Im a v) {kk : AV u → Option R} {z : R} (h : faOp (T t) f a kk = some z) :
    Pure P u V L w Im (Instr.fieldAt t v f) kk z := by
  unfold faOp at h
  split at h
  · rename_i off s g hf
    obtain ⟨fields, fd, i, hu, h1, h2, h3, h4, h5, h6, h7⟩ := fieldOf_inv hT hf
    subst h2 h4
    split at h
    · rename_i k n
      cases hb : Nat.ble (fd.offset + i.size) n with
      | false => rw [hb] at h; cases h
      | true =>
        rw [hb, cond_true] at h
        have hle := Nat.le_of_ble_eq_true hb
        obtain ⟨b, o, rfl, hj⟩ := ha
        refine ⟨_, _, run_fieldAt hu h1 h3 h5 b o, h, b, o + fd.offset, rfl, fun j hjn => ?_⟩
        have := hj (fd.offset + j) (by omega)
        rw [show k + fd.offset + j = k + (fd.offset + j) by omega, show o + fd.offset + j = o + (fd.offset + j) by omega]
        exact this
    · rename_i τ x o
      obtain ⟨b, o', rfl, hb, vs, hc, hr⟩ := ha
      refine ⟨_, _, run_fieldAt hu h1 h3 h5 b _, h, b, o', ?_, hb, vs, hc, hr⟩
      rw [Nat.add_assoc]
    · rename_i k s i' o
      obtain ⟨hl, g, n, c, hV, rfl⟩ := ha
      refine ⟨_, _, run_fieldAt hu h1 h3 h5 g _, h, hl, g, n, c, hV, ?_⟩
      rw [Nat.add_assoc]
    · cases h
  · cases h

theorem run_part {t : TypeId} {i : TypeInfo} (hi : P.info? t = some i) (hu : (P.underlying t).isSome = true) (cs : List Value) (off : Nat) (w : World) :
    (part t cs.toArray off).run P w = if Program.row? P t = true then .ok (.agg ((cs.drop off).take i.size).toArray) w else match cs[off]? with
      | some v => .ok v w
      | none => .halt (.stuck "part: no such cell") w := by
  unfold part
  rw [Sem.run_bind, run_isAgg hu w]
  simp only [Result.andThen_ok]
  split
  · rename_i h
    simp [sizeOf, typeInfo, hi, Nat.add_sub_cancel_left]
  · rename_i h
    simp only [List.getElem?_toArray]
    cases cs[off]? <;> rfl

/-- The cells of a struct or of one cell, as 'takeCells' takes them. -/
theorem takeCells_ok {cs : List (AV u)} {vs : List Value} (hr : R2 (AR u V L w Im) cs vs) {off s : Nat} {g : Bool} {x : SV u} (h : takeCells cs off s g = some x) :
    off + s ≤ vs.length ∧ SR u V L w Im x (if g = true then .agg ((vs.drop off).take s).toArray else vs.getD off undef) ∧ (g = false → s = 1 ∧ ∃ y, vs[off]? = some y) := by
  unfold takeCells at h
  cases hb : Nat.ble (off + s) cs.length with
  | false => rw [hb] at h; cases h
  | true =>
    rw [hb, cond_true] at h
    have hle := Nat.le_of_ble_eq_true hb
    rw [hr.length] at hle
    refine ⟨hle, ?_⟩
    cases g with
    | true =>
      simp only at h
      cases h
      exact ⟨⟨_, rfl, (hr.drop off).take s⟩, fun h => by cases h⟩
    | false =>
      simp only at h
      split at h
      · rename_i a r hd
        cases hs : Nat.beq s 1 with
        | false => rw [hs] at h; cases h
        | true =>
          rw [hs, cond_true] at h
          cases h
          have := hr.drop off
          rw [hd] at this
          cases hv : vs.drop off with
          | nil => rw [hv] at this; exact this.elim
          | cons y r' =>
            rw [hv] at this
            have hy : vs[off]? = some y := by
              have := congrArg (fun l => l[0]?) hv
              simpa using this
            refine ⟨?_, fun _ => ⟨Nat.eq_of_beq_eq_true hs, y, hy⟩⟩
            rw [if_neg (by simp), List.getD_eq_getElem?_getD, hy]
            exact this.1
      · cases h

theorem fOp_ok {T : TypeId → Option (TI u)} (hT : TOk P T) {t : TypeId} {f : Nat} {a : Slot u} {v : Value} (ha : SlR u V L w Im a v) {kk : Slot u → Option R} {z : R} (h : fOp (T t) f a kk = some z) :
    PureS P u V L w Im (Instr.field t v f) kk z := by
  unfold fOp at h
  split at h
  · rename_i off s g cs hf
    obtain ⟨fields, fd, i, hu, h1, h2, h3, h4, h5, h6, h7⟩ := fieldOf_inv hT hf
    subst h2 h4
    split at h
    · rename_i x hx
      obtain ⟨vs, rfl, hr⟩ := ha
      obtain ⟨hle, hsr, hone⟩ := takeCells_ok hr hx
      refine ⟨_, _, ?_, h, hsr⟩
      have hp := run_part h3 h7 vs fd.offset w
      simp only [Instr.field, Sem.run_bind, run_underlying hu, Result.andThen_ok, h1, asAgg, Sem.run_pure, hp, h6]
      cases g with
      | true => simp
      | false =>
        obtain ⟨_, y, hy⟩ := hone rfl
        simp [hy, List.getD_eq_getElem?_getD]
    · cases h
  · cases h

/-! ### Indexes -/
theorem run_indexAt_in {t e : TypeId} {i : TypeInfo} (hu : P.underlying t = some (.slice e)) (hi : P.info? e = some i) (b o n c : Nat) (k : IntKind) (ix : Int) (h0 : 0 ≤ ix) (h1 : ix < n) :
    (Instr.indexAt t (.slice (some ⟨b, o, none⟩) n c) (.int k ix)).run P w = .ok (.pointer (some ⟨b, o + ix.toNat * i.size, none⟩)) w := by
  simp [Instr.indexAt, asIntOf, run_underlying hu, h0, h1, sizeOf, typeInfo, hi, Addr.add_lit]

theorem flats_at (u : Uni) (τ : Ty) : ∀ (xs : List (u.D τ)) (i : Nat) (x : u.D τ), xs[i]? = some x → ((xs.flatMap (flat u τ)).drop (i * sz u τ)).take (sz u τ) = flat u τ x
  | [], i, x, h => by simp at h
  | y :: ys, 0, x, h => by
    simp at h
    subst h
    rw [Nat.zero_mul, List.drop_zero, List.flatMap_cons, List.take_append_of_le_length (by rw [flat_length]; exact Nat.le_refl _), List.take_of_length_le (by rw [flat_length]; exact Nat.le_refl _)]
  | y :: ys, i + 1, x, h => by
    rw [List.flatMap_cons, drop_add_app (flat u τ y) _ (i * sz u τ) _ (by rw [flat_length, Nat.succ_mul, Nat.add_comm])]
    exact flats_at u τ ys i x (by simpa using h)

/-- What lies at an element of a slice that stands. -/
theorem elem_rp {τ : Ty} {xs : List (u.D τ)} {v : Value} (hc : CR u w Im v ⟨.sl τ, xs⟩) {i : Nat} {x : u.D τ} (hx : xs[i]? = some x) :
    ∃ b o n c, v = .slice (some ⟨b, o, none⟩) n c ∧ n = xs.length ∧ AR u V L w Im (.rp τ x 0) (.pointer (some ⟨b, o + i * sz u τ, none⟩)) := by
  obtain ⟨A, cap, vs, rfl, h1, h2, h3, h4, h5⟩ := hc.inv
  have hi : i < xs.length := (List.getElem?_eq_some_iff.1 hx).1
  have hpos := sz_pos u τ
  have hvl : i * sz u τ + sz u τ ≤ vs.length := by
    rw [h3]
    have : (i + 1) * sz u τ ≤ xs.length * sz u τ := Nat.mul_le_mul_right _ hi
    rw [Nat.succ_mul] at this
    exact this
  obtain ⟨a, rfl, hb, hcell⟩ := h4 (by rintro rfl; simp at hvl; omega)
  have hsp : a.spot = none := by
    have hv0 : ∃ v0, vs[0]? = some v0 := ⟨_, List.getElem?_eq_getElem (by omega)⟩
    obtain ⟨v0, hv0⟩ := hv0
    have := hcell 0 v0 hv0
    have e0 : a.add 0 = a := by simp [Addr.add]
    rw [e0] at this
    unfold World.cell? at this
    split at this
    · split at this
      · cases this
      · rename_i hsp
        cases hq : a.spot with
        | none => rfl
        | some q => rw [hq] at hsp; simp at hsp
    · cases this
  obtain ⟨b, o, s⟩ := a
  simp only at hsp
  subst hsp
  refine ⟨b, o, _, cap, rfl, rfl, b, o + i * sz u τ, rfl, hb, (vs.drop (i * sz u τ)).take (sz u τ), fun j y hy => ?_, ?_⟩
  · rw [List.getElem?_take] at hy
    split at hy
    · rw [List.getElem?_drop] at hy
      have := hcell _ y hy
      rwa [Addr.add_lit, ← Nat.add_assoc] at this
    · cases hy
  · rw [← flats_at u τ xs i x hx]
    have : R2 (fun y c => CR u w Im y c) vs (xs.flatMap (flat u τ)) := R2.of_get (by rw [h3, flats_length]) fun j y c hy hcx => h5 j y c hy hcx
    exact (this.drop _).take _

theorem row_slice {ob : Nat → Ob u} (hr : HR u V w Im ob) {k : Nat} {e : TypeId} {τ : Ty} {xs : List (u.D τ)} (ho : ob k = .row e τ xs) (hx : xs ≠ []) :
    ∃ g cap cur, V k = .slice (some ⟨g, 0, none⟩) xs.length (cap + 1) ∧ w.heap[g]? = some (.cells cur e (0, 0)) ∧ xs.length ≤ cap + 1 ∧ cap + 1 ≤ maxLen ∧ cur.size = (cap + 1) * sz u τ ∧
      R2 (fun y c => CR u w Im y c) (cur.toList.take (xs.length * sz u τ)) (xs.flatMap (flat u τ)) := by
  have := hr.obs k
  rw [ho] at this
  rcases this with ⟨h, _⟩ | h
  · exact absurd h hx
  · exact h

theorem eltOf_inv {T : TypeId → Option (TI u)} (hT : TOk P T) {t : TypeId} {e : TI u} (h : eltOf T t = some e) :
    ∃ e' i, T e' = some e ∧ P.info? e' = some i ∧ i.size = e.size ∧ ((∃ a b c d f, T t = some ⟨.sl e', a, b, c, d, f⟩ ∧ P.underlying t = some (.slice e')) ∨ (∃ n a b c d f, T t = some ⟨.arr n e', a, b, c, d, f⟩ ∧ P.underlying t = some (.array n e'))) := by
  unfold eltOf at h
  split at h
  · rename_i e' a b c d f ht
    obtain ⟨i, z, h1, h2, _⟩ := (hT _ _ h).inf
    exact ⟨e', i, h, h1, h2, .inl ⟨_, _, _, _, _, ht, (hT _ _ ht).kd⟩⟩
  · rename_i n e' a b c d f ht
    obtain ⟨i, z, h1, h2, _⟩ := (hT _ _ h).inf
    exact ⟨e', i, h, h1, h2, .inr ⟨_, _, _, _, _, _, ht, (hT _ _ ht).kd⟩⟩
  · cases h

theorem iaOp_ok {T : TypeId → Option (TI u)} (hT : TOk P T) {ob : Nat → Ob u} (hr : HR u V w Im ob) {t : TypeId} {a : AV u} {v : Value} (ha : AR u V (Lv u ob) w Im a v) {i : Int} (k : IntKind)
    {kk : AV u → Option R} {z : R} (h : iaOp ob (T t) (eltOf T t) a i kk = some z) : Pure P u V (Lv u ob) w Im (Instr.indexAt t v (.int k i)) kk z := by
  unfold iaOp at h
  split at h
  · rename_i e0 b1 b2 b3 b4 b5 e ht he
    obtain ⟨e', inf, h1, h2, h3, h4⟩ := eltOf_inv hT he
    rcases h4 with ⟨_, _, _, _, _, ht', hu⟩ | ⟨_, _, _, _, _, _, ht', hu⟩
    case inr => rw [ht] at ht'; cases ht'
    rw [ht] at ht'
    cases ht'
    have std : ∀ (τ : Ty) (xs : List (u.D τ)), Nat.beq e.size (sz u τ) = true → CR u w Im v ⟨.sl τ, xs⟩ → gi xs i (fun x => kk (.rp τ x 0)) = some z → Pure P u V (Lv u ob) w Im (Instr.indexAt t v (.int k i)) kk z := by
      intro τ xs hb hc hg
      obtain ⟨x, h0, hx, hk⟩ := gi_some hg
      obtain ⟨b, o, n, c, rfl, rfl, hrp⟩ := elem_rp (V := V) (L := Lv u ob) hc hx
      have hlt : i.toNat < xs.length := (List.getElem?_eq_some_iff.1 hx).1
      refine ⟨_, _, run_indexAt_in hu h2 b o _ c k i h0 (by omega), hk, ?_⟩
      rw [h3, Nat.eq_of_beq_eq_true hb]
      exact hrp
    split at h
    · rename_i τ xs
      obtain ⟨ys, rfl⟩ : ∃ ys : List (u.D τ), ys = xs := ⟨xs, rfl⟩
      cases hb : Nat.beq e.size (sz u τ) with
      | false => rw [hb] at h; cases h
      | true => rw [hb, cond_true] at h; exact std τ ys hb ha h
    · rename_i τ xs
      cases hb : Nat.beq e.size (sz u τ) with
      | false => rw [hb] at h; cases h
      | true => rw [hb, cond_true] at h; exact std τ xs hb ha.2 h
    · rename_i kk'
      split at h
      · rename_i e2 τ xs ho
        cases hb : Nat.beq e.size (sz u τ) with
        | false => rw [hb] at h; cases h
        | true =>
          rw [hb, cond_true] at h
          replace h := ck_some h
          obtain ⟨hc, h⟩ := h
          simp at hc
          have hne : xs ≠ [] := by rintro rfl; simp at hc; omega
          obtain ⟨g, cap, cur, hV, hg, g1, g2, g3, g4⟩ := row_slice hr ho hne
          have hv : v = _ := ha.2.1.trans hV
          subst hv
          refine ⟨_, _, run_indexAt_in hu h2 g 0 _ _ k i hc.1 hc.2, h, ha.1, g, _, _, hV, ?_⟩
          rw [h3, Nat.eq_of_beq_eq_true hb, Nat.zero_add, Nat.add_zero]
      · rename_i τ xs ho
        cases hb : Nat.beq e.size (sz u τ) with
        | false => rw [hb] at h; cases h
        | true =>
          rw [hb, cond_true] at h
          refine std τ xs hb ?_ h
          have := (frz_cr hr ho).1
          rwa [← ha.2.1] at this
      · cases h
    · rename_i k' s lo n cl
      split at h
      · rename_i e2 τ xs ho
        cases hb : (Nat.beq s (sz u τ) && Nat.beq e.size s) with
        | false => rw [hb] at h; cases h
        | true =>
          rw [hb, cond_true] at h
          rw [Bool.and_eq_true] at hb
          have es := Nat.eq_of_beq_eq_true hb.1
          have es2 := Nat.eq_of_beq_eq_true hb.2
          replace h := ck_some h
          obtain ⟨hc, h⟩ := h
          simp at hc
          obtain ⟨hl, A, N, c, hV, A', c', rfl, a1, a2, a3, a4, a5⟩ := ha
          obtain ⟨g, rfl, rfl⟩ := a5 (by omega)
          refine ⟨_, _, run_indexAt_in hu h2 g _ _ _ k i hc.1 hc.2, h, hl, g, _, _, hV, ?_⟩
          rw [h3, es2, Nat.add_mul, Nat.add_zero]
      · rename_i τ xs ho
        cases hb : (Nat.beq s (sz u τ) && Nat.beq e.size s) with
        | false => rw [hb] at h; cases h
        | true =>
          rw [hb, cond_true] at h
          rw [Bool.and_eq_true] at hb
          have es := Nat.eq_of_beq_eq_true hb.1
          have es2 := Nat.eq_of_beq_eq_true hb.2
          subst es
          refine std τ _ (by rw [es2]; simp) ?_ h
          exact view_cr (frz_cr hr ho) ha
      · cases h
    · cases h
  · rename_i len e0 b1 b2 b3 b4 b5 e ht he
    obtain ⟨e', inf, h1, h2, h3, h4⟩ := eltOf_inv hT he
    rcases h4 with ⟨_, _, _, _, _, ht', hu⟩ | ⟨_, _, _, _, _, _, ht', hu⟩
    case inl => rw [ht] at ht'; cases ht'
    rw [ht] at ht'
    cases ht'
    split at h
    · rename_i k' n
      replace h := ck_some h
      obtain ⟨hc, h⟩ := h
      simp at hc
      cases hb : Nat.ble (i.toNat * e.size + e.size) n with
      | false => rw [hb] at h; cases h
      | true =>
        rw [hb, cond_true] at h
        have hle := Nat.le_of_ble_eq_true hb
        obtain ⟨b, o, rfl, hj⟩ := ha
        refine ⟨_, .pointer (some ⟨b, o + i.toNat * e.size, none⟩), ?_, h, b, _, rfl, fun j hjn => ?_⟩
        · simp [Instr.indexAt, asIntOf, run_underlying hu, Instr.sureAddr, hc.1, hc.2, sizeOf, typeInfo, h2, h3, Addr.add_lit]
        · have := hj (i.toNat * e.size + j) (by omega)
          rw [Nat.add_assoc, Nat.add_assoc]
          exact this
    · cases h
  · cases h

theorem ixOp_ok {T : TypeId → Option (TI u)} (hT : TOk P T) {t : TypeId} {a : Slot u} {v : Value} (ha : SlR u V L w Im a v) {i : Int} (k : IntKind)
    {kk : Slot u → Option R} {z : R} (h : ixOp (T t) (eltOf T t) a i kk = some z) : PureS P u V L w Im (Instr.index t v (.int k i)) kk z := by
  unfold ixOp at h
  split at h
  · rename_i b1 b2 b3 b4 b5 s ht
    have hu : P.underlying t = some .string := (hT _ _ ht).kd
    obtain ⟨x, h0, hx, hk⟩ := gi_some h
    have hv := CR.str_inv (show CR u w Im v ⟨.str, s⟩ from ha)
    subst hv
    refine ⟨_, .int .u8 x.toNat, ?_, hk, CR.int _ _⟩
    have hg : (⟨⟨s⟩⟩ : ByteArray)[i.toNat]? = some x := (get_mk s i.toNat).trans hx
    simp only [Instr.index, Sem.run_bind, asIntOf, Sem.run_pure, Result.andThen_ok, run_underlying hu, h0, if_true, hg]
  · rename_i len e0 b1 b2 b3 b4 b5 cs ht
    split at h
    · rename_i e he
      obtain ⟨e', inf, h1, h2, h3, h4⟩ := eltOf_inv hT he
      rcases h4 with ⟨_, _, _, _, _, ht', hu⟩ | ⟨_, _, _, _, _, _, ht', hu⟩
      case inl => rw [ht] at ht'; cases ht'
      rw [ht] at ht'
      cases ht'
      replace h := ck_some h
      obtain ⟨hc, h⟩ := h
      simp at hc
      split at h
      · rename_i x hx
        obtain ⟨vs, rfl, hr⟩ := ha
        obtain ⟨hle, hsr, hone⟩ := takeCells_ok hr hx
        refine ⟨_, _, ?_, h, hsr⟩
        have hp := run_part h2 (hT _ _ h1).und vs (i.toNat * inf.size) w
        simp only [Instr.index, Sem.run_bind, asIntOf, Sem.run_pure, Result.andThen_ok, run_underlying hu, hc.1, hc.2, and_self, if_true, run_sizeOf h2, hp, (hT _ _ h1).agg]
        rw [h3]
        cases hg : e.agg with
        | true => simp
        | false =>
          rw [hg] at hone
          obtain ⟨_, y, hy⟩ := hone rfl
          simp [hy, List.getD_eq_getElem?_getD]
      · cases h
    · cases h
  · cases h

/-! ### Lengths -/
theorem lenA_ok {ob : Nat → Ob u} (hr : HR u V w Im ob) {t ty : TypeId} {k : TK} (hk : KindOk P t k) {a : AV u} {v : Value} (ha : AR u V (Lv u ob) w Im a v) {n : Nat} (h : lenA ob k a = some n) :
    (Builtin.len_ #[t] ty #[v]).run P w = .ok (.int .i64 n) w := by
  have sl : ∀ e A n c, P.underlying t = some (.slice e) → (Builtin.len_ #[t] ty #[.slice A n c]).run P w = .ok (.int .i64 n) w := by
    intro e A n c hu
    simp [Builtin.len_, run_underlying hu, goInt]
  unfold lenA at h
  split at h
  · split at h
    · rename_i s
      cases h
      have hv := CR.str_inv (show CR u w Im v ⟨.str, s⟩ from ha)
      subst hv
      have hu : P.underlying t = some .string := hk
      simp [Builtin.len_, run_underlying hu, goInt]
      rfl
    · cases h
  · rename_i e
    have hu : P.underlying t = some (.slice e) := hk
    split at h
    · rename_i τ xs
      cases h
      obtain ⟨A, c, vs, rfl, _⟩ := CR.inv (show CR u w Im v ⟨.sl τ, xs⟩ from ha)
      exact sl e _ _ _ hu
    · cases h
      obtain ⟨⟨A, rfl⟩, _⟩ := ha
      exact sl e _ _ _ hu
    · cases h
      obtain ⟨A, rfl⟩ := ha
      exact sl e _ _ _ hu
    · rename_i k
      obtain ⟨A, c, hV, _⟩ := own_len hr h
      rw [ha.2.1.trans hV]
      exact sl e _ _ _ hu
    · cases h
      obtain ⟨_, A, N, c, _, A', c', rfl, _⟩ := ha
      exact sl e _ _ _ hu
    · cases h
  · rename_i e e'
    have hu : P.underlying t = some (.map e e') := hk
    split at h
    · rename_i k
      unfold obLenM at h
      split at h
      · rename_i kt vt es ho
        cases h
        have := hr.obs k
        rw [ho] at this
        obtain ⟨r, ents, clock, hV, hw, hes⟩ := this
        rw [ha.2.1.trans hV]
        have hl := hes.length
        rw [Array.length_toList] at hl
        simp only [Builtin.len_, Sem.run_bind, run_underlying hu, List.getElem?_toArray, List.getElem?_cons_zero, Result.andThen_ok]
        simp [getObj, Sem.run, hw, goInt, hl]
      · cases h
    · cases h
      obtain ⟨rfl, _⟩ := ha
      simp [Builtin.len_, run_underlying hu, goInt]
    · cases h
  · cases h

/-! ### Loads -/
theorem cellsAt_ok {ob : Nat → Ob u} (hr : HR u V w Im ob) : ∀ {n k : Nat} {cs : List (AV u)} (b o : Nat), cellsAt ob k n = some cs → (∀ j, j < n → V (k + j) = .pointer (some ⟨b, o + j, none⟩)) →
    ∃ vs : List Value, (∀ (j : Nat) y, vs[j]? = some y → w.cell? ⟨b, o + j, none⟩ = some y) ∧ R2 (AR u V (Lv u ob) w Im) cs vs ∧ cs.length = n
  | 0, k, cs, b, o, h, hv => by
    cases h
    exact ⟨[], fun j y hy => by simp at hy, trivial, rfl⟩
  | n + 1, k, cs, b, o, h, hv => by
    simp only [cellsAt] at h
    split at h
    · rename_i a ha
      split at h
      · rename_i r hr'
        cases h
        have hok := hr.obs k
        rw [ha] at hok
        obtain ⟨ad, y, e, hs, hc, hf, har⟩ := hok
        have hV := hv 0 (by omega)
        rw [Nat.add_zero, e] at hV
        cases hV
        obtain ⟨vs, h1, h2, h3⟩ := cellsAt_ok hr b (o + 1) hr' (fun j hj => by
          have := hv (j + 1) (by omega)
          rwa [show k + (j + 1) = k + 1 + j by omega, show o + (j + 1) = o + 1 + j by omega] at this)
        refine ⟨y :: vs, fun j z hz => ?_, ⟨har, h2⟩, by simp [h3]⟩
        cases j with
        | zero => simp at hz; subst hz; simpa using hc
        | succ j =>
          have := h1 j z (by simpa using hz)
          rwa [show o + (j + 1) = o + 1 + j by omega]
      · cases h
    · cases h

theorem run_loadAt_cells {t : TypeId} {ti : TI u} (ht : TIok P t ti) (b o : Nat) {vs : List Value} (hl : vs.length = ti.size) (hc : ∀ (j : Nat) y, vs[j]? = some y → w.cell? ⟨b, o + j, none⟩ = some y) :
    (Instr.loadAt t (.pointer (some ⟨b, o, none⟩))).run P w = .ok (if ti.agg = true then .agg vs.toArray else vs.getD 0 undef) w := by
  obtain ⟨i, z, h1, h2, _⟩ := ht.inf
  have hlc : (loadCells ⟨b, o, none⟩ vs.length).run P w = .ok vs.toArray w :=
    run_loadCells_list (P := P) w ⟨b, o, none⟩ vs (fun j v hv => by rw [Addr.add_mid]; exact hc j v hv)
  simp only [Instr.loadAt, Instr.sureAddr, Sem.run_bind, Sem.run_pure, Result.andThen_ok, loadVar, run_isAgg ht.und, ht.agg]
  cases hg : ti.agg with
  | true => simp [run_sizeOf h1, h2, ← hl, hlc]
  | false =>
    have h1' := ht.one hg
    rw [h1'] at hl
    match vs, hl with
    | [y], _ =>
      have := hc 0 y rfl
      rw [Nat.add_zero] at this
      simp [this]

theorem shut_ok {g : Bool} {cs : List (AV u)} {vs : List Value} (hr : R2 (AR u V L w Im) cs vs) {x : SV u} (h : shut g cs = some x) : SR u V L w Im x (if g = true then .agg vs.toArray else vs.getD 0 undef) := by
  unfold shut at h
  split at h
  · cases h
    exact ⟨vs, rfl, hr⟩
  · cases h
    match vs, hr with
    | [y], hr => exact hr.1
  · cases h

theorem flat_AR {τ : Ty} {x : u.D τ} {vs : List Value} (h : R2 (fun y c => CR u w Im y c) vs (flat u τ x)) : R2 (AR u V L w Im) ((flat u τ x).map .c) vs := by
  refine R2.mapL (AV.c (u := u)) ?_
  refine R2.of_get h.length.symm fun i a b ha hb => ?_
  obtain ⟨c, hc, hr⟩ := h.get i b hb
  rw [ha] at hc
  cases hc
  exact hr

theorem ldOp_ok {T : TypeId → Option (TI u)} (hT : TOk P T) {ob : Nat → Ob u} (hr : HR u V w Im ob) {t : TypeId} {a : AV u} {v : Value} (ha : AR u V (Lv u ob) w Im a v)
    {kk : Slot u → Option R} {z : R} (h : ldOp ob (T t) a kk = some z) : PureS P u V (Lv u ob) w Im (Instr.loadAt t v) kk z := by
  unfold ldOp at h
  split at h
  · rename_i ti ht
    have hti := hT _ _ ht
    have part : ∀ (τ : Ty) (x : u.D τ) (o b oo : Nat) (vs : List Value), v = .pointer (some ⟨b, oo + o, none⟩) → (∀ (j : Nat) y, vs[j]? = some y → w.cell? ⟨b, oo + j, none⟩ = some y) → R2 (fun y c => CR u w Im y c) vs (flat u τ x) →
        (match takeCells ((flat u τ x).map .c) o ti.size ti.agg with | some y => kk (.sv y) | none => none) = some z → PureS P u V (Lv u ob) w Im (Instr.loadAt t v) kk z := by
      intro τ x o b oo vs e hc hx h
      subst e
      split at h
      · rename_i y hy
        obtain ⟨hle, hsr, hone⟩ := takeCells_ok (flat_AR (V := V) (L := Lv u ob) hx) hy
        have hcells : ∀ (j : Nat) y, ((vs.drop o).take ti.size)[j]? = some y → w.cell? ⟨b, oo + o + j, none⟩ = some y := by
          intro j y hj
          rw [List.getElem?_take] at hj
          split at hj
          · rw [List.getElem?_drop] at hj
            have := hc _ y hj
            rwa [← Nat.add_assoc] at this
          · cases hj
        refine ⟨_, _, run_loadAt_cells hti b (oo + o) (by rw [List.length_take, List.length_drop]; omega) hcells, h, ?_⟩
        cases hg : ti.agg with
        | true => rw [hg] at hsr; exact hsr
        | false =>
          rw [hg] at hsr
          have e1 := hti.one hg
          have : ((vs.drop o).take ti.size).getD 0 undef = vs.getD o undef := by
            rw [e1]
            simp [List.getD_eq_getElem?_getD]
          rw [if_neg (by simp), this]
          rwa [if_neg (by simp)] at hsr
      · cases h
    split at h
    · rename_i k n
      cases hb : Nat.ble ti.size n with
      | false => rw [hb] at h; cases h
      | true =>
        rw [hb, cond_true] at h
        have hle := Nat.le_of_ble_eq_true hb
        split at h
        · rename_i cs hcs
          split at h
          · rename_i x hx
            obtain ⟨b, o, rfl, hj⟩ := ha
            obtain ⟨vs, h1, h2, h3⟩ := cellsAt_ok hr b o hcs (fun j hjn => (hj j (by omega)).2)
            exact ⟨_, _, run_loadAt_cells hti b o (h2.length.symm.trans h3) h1, h, shut_ok h2 hx⟩
          · cases h
        · cases h
    · rename_i τ x o
      obtain ⟨b, oo, rfl, hb, vs, hc, hx⟩ := ha
      exact part τ x o b oo vs rfl hc hx h
    · rename_i k s i o
      split at h
      · rename_i e τ xs ho
        cases hb : Nat.beq s (sz u τ) with
        | false => rw [hb] at h; cases h
        | true =>
          rw [hb, cond_true] at h
          have es := Nat.eq_of_beq_eq_true hb
          subst es
          obtain ⟨x, h0, hx, hk⟩ := gi_some h
          have hx' : xs[i]? = some x := by simpa using hx
          obtain ⟨hl, g, n, c, hV, rfl⟩ := ha
          obtain ⟨g', cap, cur, hV', hg, g1, g2, g3, g4⟩ := row_slice hr ho (by rintro rfl; simp at hx')
          rw [hV] at hV'
          cases hV'
          have hlt : i < xs.length := (List.getElem?_eq_some_iff.1 hx').1
          refine part τ x o g (i * sz u τ) (((cur.toList.take (xs.length * sz u τ)).drop (i * sz u τ)).take (sz u τ)) rfl (fun j y hy => ?_) ?_ hk
          · rw [List.getElem?_take] at hy
            split at hy
            · rw [List.getElem?_drop, List.getElem?_take] at hy
              split at hy
              · rw [cell_of_row w g _ cur e (0, 0) hg]
                simpa using hy
              · cases hy
            · cases hy
          · rw [← flats_at u τ xs i x hx']
            exact (g4.drop _).take _
      · cases h
    · cases h
  · cases h
end
end Go.Proofs.YtmppaodhihnejaaGreat.M
