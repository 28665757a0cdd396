/- Operations that touch no memory: what the machine answers is what the abstract machine says. -/
import Derived.Test.YtmppaodhihnejaaGreatCoer
set_option linter.unusedVariables false
namespace Go.Proofs.YtmppaodhihnejaaGreat.M
open Go

section
variable {P : Program} {u : Uni} {R : Type} {V : Nat → Value} {L : Nat → Prop} {w : World} {Im : Nat → Prop}

/-! ### Types -/
def Program.row? (P : Program) (t : TypeId) : Bool := match P.underlying t with
  | some (.struct _) => true
  | some (.array _ _) => true
  | _ => false
def KindOk (P : Program) (t : TypeId) : TK → Prop
  | .int k => P.underlying t = some (.int k)
  | .bool => P.underlying t = some .bool
  | .str => P.underlying t = some .string
  | .sl e => P.underlying t = some (.slice e)
  | .st fs => ∃ fields, P.underlying t = some (.struct fields) ∧ (∀ (i : Nat) off s g, fs[i]? = some (off, s, g) → ∃ f : Field, fields[i]? = some f ∧ f.offset = off ∧ (P.info? f.type).map (·.size) = some s ∧ 0 < s ∧ Program.row? P f.type = g ∧ (P.underlying f.type).isSome = true) ∧
      fields.toList.mapM (fun f => (P.info? f.type).map fun i => (f.offset, i.size)) = some (fs.map fun p => (p.1, p.2.1))
  | .arr n e => P.underlying t = some (.array n e)
  | .ptr e => P.underlying t = some (.pointer e)
  | .map k e => P.underlying t = some (.map k e)
  | .fn => ∃ a b c, P.underlying t = some (.func a b c)
structure TIok (P : Program) (t : TypeId) (ti : TI u) : Prop where
  kd : KindOk P t ti.kind
  agg : Program.row? P t = ti.agg
  und : (P.underlying t).isSome = true
  inf : ∃ i z, P.info? t = some i ∧ i.size = ti.size ∧ i.bytes = ti.bytes ∧ i.zero = some z ∧ (∀ V L w Im, R2 (AR u V L w Im) ti.zero z.cells.toList) ∧ (ti.agg = true → ∃ cs, z = .agg cs) ∧ (ti.agg = false → z.cells = #[z])
  len : ti.zero.length = ti.size
  pos : 0 < ti.size
  one : ti.agg = false → ti.size = 1
  bpos : 0 < ti.bytes
  den : ∀ τ, ti.den = some τ → sz u τ = ti.size
def TOk (P : Program) (T : TypeId → Option (TI u)) : Prop := ∀ t ti, T t = some ti → TIok P t ti

theorem run_isAgg {t : TypeId} (h : (P.underlying t).isSome = true) (w : World) : (isAgg t).run P w = .ok (Program.row? P t) w := by
  obtain ⟨d, hd⟩ := Option.isSome_iff_exists.1 h
  unfold isAgg Program.row?
  rw [Sem.run_bind, run_underlying hd w, hd]
  cases d <;> rfl
theorem run_sizeOf {t : TypeId} {i : TypeInfo} (h : P.info? t = some i) (w : World) : (sizeOf t).run P w = .ok i.size w := by simp [sizeOf, typeInfo, h]
theorem run_zeroValue {t : TypeId} {i : TypeInfo} {z : Value} (h : P.info? t = some i) (hz : i.zero = some z) (w : World) : (zeroValue t).run P w = .ok z w := by simp [zeroValue, typeInfo, h, hz]

/-! ### Data of one cell -/
theorem CR.int_inv {k : IntKind} {n : Int} {v : Value} (h : CR u w Im v ⟨.int k, n⟩) : v = .int k n := by cases h; rfl
theorem CR.bool_inv {b : Bool} {v : Value} (h : CR u w Im v ⟨.bool, b⟩) : v = .bool b := by cases h; rfl
theorem CR.str_len {s : List UInt8} {v : Value} (h : CR u w Im v ⟨.str, s⟩) : s.length ≤ strMax := by cases h; assumption
theorem CR.str_inv {s : List UInt8} {v : Value} (h : CR u w Im v ⟨.str, s⟩) : v = .string ⟨⟨s⟩⟩ := by cases h; rfl

theorem AR.one {a : AV u} {v : Value} (ha : AR u V L w Im a v) (hd : a ≠ .dead) : v.oneCell' = true := by
  cases a with
  | c x => exact CR.one ha
  | kl τ xs => obtain ⟨⟨A, rfl⟩, _⟩ := ha; rfl
  | kn => obtain ⟨A, rfl⟩ := ha; rfl
  | ptr k n => obtain ⟨b, o, rfl, _⟩ := ha; rfl
  | rp τ x off => obtain ⟨b, o, rfl, _⟩ := ha; rfl
  | ep k s i off => obtain ⟨_, g, n, c, _, rfl⟩ := ha; rfl
  | view k s lo len clip => obtain ⟨_, A, n, c, _, A', c', rfl, _⟩ := ha; rfl
  | raw r => obtain ⟨rfl, h⟩ := ha; exact h
  | fn f caps => obtain ⟨cs, rfl, _⟩ := ha; rfl
  | dead => exact absurd rfl hd
  | own k => exact ha.2.2
  | map k => obtain ⟨_, _, r, rfl⟩ := ha; rfl
  | it k => exact ha.2.2


theorem toList_mk (s : List UInt8) : (⟨⟨s⟩⟩ : ByteArray).toList = s := ByteArray.toList_eq _
theorem size_mk (s : List UInt8) : (⟨⟨s⟩⟩ : ByteArray).size = s.length := rfl
theorem append_mk (a b : List UInt8) : (⟨⟨a⟩⟩ ++ ⟨⟨b⟩⟩ : ByteArray) = ⟨⟨a ++ b⟩⟩ := by
  apply ByteArray.ext
  simp
theorem extract_mk (s : List UInt8) (l h : Nat) : (⟨⟨s⟩⟩ : ByteArray).extract l h = ⟨⟨(s.take h).drop l⟩⟩ := by
  apply ByteArray.ext
  apply Array.ext'
  simp [List.drop_take]
theorem get_mk (s : List UInt8) (i : Nat) : (⟨⟨s⟩⟩ : ByteArray)[i]? = s[i]? := by
  by_cases h : i < s.length
  · rw [ByteArray.getElem?_lt' _ _ h, List.getElem?_eq_getElem h]
    rfl
  · rw [ByteArray.getElem?_ge' _ _ h, List.getElem?_eq_none (by omega)]

/-! ### Constants, operands -/
theorem constA_ok (v : Value) (h : v.oneCell' = true) : AR u V L w Im (constA v) v := by
  unfold constA
  split
  · exact .int _ _
  · exact .bool _
  · rename_i s
    cases hb : Nat.ble s.data.toList.length strMax with
    | true => exact CR.str (u := u) (w := w) (Im := Im) s.data.toList (Nat.le_of_ble_eq_true hb)
    | false => exact ⟨rfl, rfl⟩
  · exact ⟨none, rfl⟩
  · exact ⟨rfl, h⟩

theorem ck_some {b : Bool} {k : Option R} {z : R} (h : ck b k = some z) : b = true ∧ k = some z := by
  cases b with
  | false => cases h
  | true => exact ⟨rfl, h⟩
theorem zk_pick (h : Int) : (h = 0 ∧ ∀ a b : Option R, zk h a b = a) ∨ (∀ a b : Option R, zk h a b = b) := by
  cases h with
  | ofNat n =>
    cases n with
    | zero => exact .inl ⟨rfl, fun _ _ => rfl⟩
    | succ n => exact .inr fun _ _ => rfl
  | negSucc n => exact .inr fun _ _ => rfl
theorem zk_some {h : Int} {a b : Option R} {z : R} (hz : zk h a b = some z) : (h = 0 ∧ a = some z) ∨ b = some z := by
  rcases zk_pick (R := R) h with ⟨e, e2⟩ | e
  · exact .inl ⟨e, by rw [← e2 a b]; exact hz⟩
  · exact .inr (by rw [← e a b]; exact hz)
theorem gi_some {α : Type} {xs : List α} {i : Int} {k : α → Option R} {z : R} (h : gi xs i k = some z) : ∃ x, 0 ≤ i ∧ xs[i.toNat]? = some x ∧ k x = some z := by
  unfold gi at h
  split at h
  · rename_i x hx
    split at hx
    · rename_i h0
      exact ⟨x, h0, hx, h⟩
    · cases hx
  · cases h

/-- A pure answer. -/
def Pure (P : Program) (u : Uni) (V : Nat → Value) (L : Nat → Prop) (w : World) (Im : Nat → Prop) (m : Sem Value) (kk : AV u → Option R) (z : R) : Prop :=
  ∃ r v, m.run P w = .ok v w ∧ kk r = some z ∧ AR u V L w Im r v

theorem bInt_ok {op : BinOp} {k : IntKind} {a b : Int} {kk : AV u → Option R} {z : R} (h : bInt op k a b kk = some z) (t : TypeId) :
    Pure P u V L w Im (binOp op t (.int k a) (.int k b)) kk z := by
  cases op <;> simp only [bInt] at h
  case add => exact ⟨_, _, by rw [binOp_add]; rfl, h, .int _ _⟩
  case sub => exact ⟨_, _, by rw [binOp_sub]; rfl, h, .int _ _⟩
  case mul => exact ⟨_, _, by rw [binOp_mul]; rfl, h, .int _ _⟩
  case quo =>
    replace h := ck_some h
    obtain ⟨hb, h⟩ := h
    exact ⟨_, _, by rw [binOp_quo]; unfold Op.intDiv; rw [if_neg (by simpa using hb)]; rfl, h, .int _ _⟩
  case rem =>
    replace h := ck_some h
    obtain ⟨hb, h⟩ := h
    exact ⟨_, _, by rw [binOp_rem]; unfold Op.intDiv; rw [if_neg (by simpa using hb)]; rfl, h, .int _ _⟩
  case and => exact ⟨_, _, by rw [binOp_and]; rfl, h, .int _ _⟩
  case or => exact ⟨_, _, by rw [binOp_or]; rfl, h, .int _ _⟩
  case xor => exact ⟨_, _, by rw [binOp_xor]; rfl, h, .int _ _⟩
  case andNot => exact ⟨_, _, by rw [binOp_andNot]; rfl, h, .int _ _⟩
  case eql => exact ⟨_, _, by rw [binOp_eql]; rfl, h, .bool _⟩
  case neq => exact ⟨_, _, by rw [binOp_neq]; rfl, h, .bool _⟩
  case lss => exact ⟨_, _, by rw [binOp_lss]; rfl, h, .bool _⟩
  case leq => exact ⟨_, _, by rw [binOp_leq]; rfl, h, .bool _⟩
  case gtr => exact ⟨_, _, by rw [binOp_gtr]; rfl, h, .bool _⟩
  case geq => exact ⟨_, _, by rw [binOp_geq]; rfl, h, .bool _⟩
  all_goals cases h
theorem bShift_ok {op : BinOp} {k yk : IntKind} {a b : Int} {kk : AV u → Option R} {z : R} (h : bShift op k a b kk = some z) (t : TypeId) :
    Pure P u V L w Im (binOp op t (.int k a) (.int yk b)) kk z := by
  cases op <;> simp only [bShift] at h
  case shl =>
    replace h := ck_some h
    obtain ⟨hb, h⟩ := h
    have hb := of_decide_eq_true hb
    exact ⟨_, _, by rw [binOp_shl]; unfold Op.shift; rw [if_neg (by omega)]; rfl, h, .int _ _⟩
  case shr =>
    replace h := ck_some h
    obtain ⟨hb, h⟩ := h
    have hb := of_decide_eq_true hb
    exact ⟨_, _, by rw [binOp_shr]; unfold Op.shift; rw [if_neg (by omega)]; rfl, h, .int _ _⟩
  all_goals cases h
theorem bStr_ok {op : BinOp} {a b : List UInt8} {kk : AV u → Option R} {z : R} (h : bStr op a b kk = some z) (t : TypeId) :
    Pure P u V L w Im (binOp op t (.string ⟨⟨a⟩⟩) (.string ⟨⟨b⟩⟩)) kk z := by
  have hb : ∀ op, op ≠ .shl → op ≠ .shr → binOp op t (.string ⟨⟨a⟩⟩) (.string ⟨⟨b⟩⟩) = Op.stringOp op ⟨⟨a⟩⟩ ⟨⟨b⟩⟩ := by
    intro op h1 h2
    cases op <;> first | rfl | exact absurd rfl h1 | exact absurd rfl h2
  cases op <;> simp only [bStr] at h
  case add =>
    replace h := ck_some h
    obtain ⟨hl, h⟩ := h
    have hl := of_decide_eq_true hl
    refine ⟨_, _, ?_, h, .str _ (by rw [List.length_append]; unfold strMax; omega)⟩
    rw [hb _ (by simp) (by simp)]
    simp only [Op.stringOp, size_mk]
    rw [if_neg (by simp [IntKind.max, IntKind.signed, IntKind.bits]; omega), append_mk]
    rfl
  case eql => exact ⟨_, _, by rw [hb _ (by simp) (by simp)]; simp only [Op.stringOp, toList_mk]; rfl, h, .bool _⟩
  case neq => exact ⟨_, _, by rw [hb _ (by simp) (by simp)]; simp only [Op.stringOp, toList_mk]; rfl, h, .bool _⟩
  case lss => exact ⟨_, _, by rw [hb _ (by simp) (by simp)]; simp only [Op.stringOp, toList_mk]; rfl, h, .bool _⟩
  case leq => exact ⟨_, _, by rw [hb _ (by simp) (by simp)]; simp only [Op.stringOp, toList_mk]; rfl, h, .bool _⟩
  case gtr => exact ⟨_, _, by rw [hb _ (by simp) (by simp)]; simp only [Op.stringOp, toList_mk]; rfl, h, .bool _⟩
  case geq => exact ⟨_, _, by rw [hb _ (by simp) (by simp)]; simp only [Op.stringOp, toList_mk]; rfl, h, .bool _⟩
  all_goals cases h
theorem equal_of {t : TypeId} {x y : Value} {b : Bool} (h : (Op.equal t x y).run P w = .ok b w) (op : BinOp) (hb : binOp .eql t x y = (do pure (.bool (← Op.equal t x y)) : Sem Value)) (hb' : binOp .neq t x y = (do pure (.bool (!(← Op.equal t x y))) : Sem Value)) :
    (binOp .eql t x y).run P w = .ok (.bool b) w ∧ (binOp .neq t x y).run P w = .ok (.bool (!b)) w := by
  rw [hb, hb']
  simp [h]
theorem equal_step (t : TypeId) (x y : Value) : Op.equal t x y = Op.equalIn (Nat.succ 9999) t x y := rfl
theorem bBool_ok {op : BinOp} {a b : Bool} {kk : AV u → Option R} {z : R} (h : bBool op a b kk = some z) (t : TypeId) (ht : P.underlying t = some .bool) :
    Pure P u V L w Im (binOp op t (.bool a) (.bool b)) kk z := by
  have he : (Op.equal t (.bool a) (.bool b)).run P w = .ok (a == b) w := by
    rw [equal_step, Op.equalIn, Sem.run_bind, run_underlying ht]
    rfl
  have := equal_of he op rfl rfl
  cases op <;> simp only [bBool] at h
  case eql => exact ⟨_, _, this.1, h, .bool _⟩
  case neq => exact ⟨_, _, this.2, h, .bool _⟩
  all_goals cases h

/-! ### nil -/
theorem nilA_inv {k : TK} {a : AV u} {p : Bool} {x : Value} (ha : AR u V L w Im a x) (hp : nilA k a = some p) :
    (∃ e o, k = .ptr e ∧ x = .pointer o ∧ p = o.isNone ∧ (isNil a = true → o = none)) ∨ (k = .fn ∧ ((x = .nilFunc ∧ p = true) ∨ ∃ f c d, x = .func f c d ∧ p = false ∧ isNil a = false)) ∨
      (∃ e e' o, k = .map e e' ∧ x = .map o ∧ p = o.isNone ∧ (isNil a = true → o = none)) := by
  unfold nilA at hp
  split at hp
  · split at hp
    · cases hp; exact .inl ⟨_, none, rfl, ha.1, rfl, fun _ => rfl⟩
    · cases hp
  · split at hp
    · cases hp; obtain ⟨b, o, rfl, _⟩ := ha; exact .inl ⟨_, _, rfl, rfl, rfl, fun h => by cases h⟩
    · cases hp
  · split at hp
    · cases hp; exact .inr (.inl ⟨rfl, .inl ⟨ha.1, rfl⟩⟩)
    · cases hp
  · split at hp
    · cases hp; exact .inr (.inl ⟨rfl, .inr ⟨_, _, _, ha.1, rfl, rfl⟩⟩)
    · cases hp
  · split at hp
    · cases hp; obtain ⟨cs, rfl, _⟩ := ha; exact .inr (.inl ⟨rfl, .inr ⟨_, _, _, rfl, rfl, rfl⟩⟩)
    · cases hp
  · split at hp
    · cases hp; exact .inr (.inr ⟨_, _, none, rfl, ha.1, rfl, fun _ => rfl⟩)
    · cases hp
  · split at hp
    · cases hp; obtain ⟨_, _, r, rfl⟩ := ha; exact .inr (.inr ⟨_, _, _, rfl, rfl, rfl, fun h => by cases h⟩)
    · cases hp
  · cases hp
theorem nilA_ok {k : TK} {t : TypeId} (hk : KindOk P t k) {a b : AV u} {p q : Bool} {x y : Value} (ha : AR u V L w Im a x) (hb : AR u V L w Im b y) (hp : nilA k a = some p) (hq : nilA k b = some q) (hn : (isNil a || isNil b) = true) :
    (Op.equal t x y).run P w = .ok (p && q) w ∧ binOp .eql t x y = (do pure (.bool (← Op.equal t x y)) : Sem Value) ∧ binOp .neq t x y = (do pure (.bool (!(← Op.equal t x y))) : Sem Value) ∧
      (∀ op X Y, eqGuard op t X Y x y = pure ()) := by
  rcases nilA_inv ha hp with ⟨e, o, rfl, rfl, rfl, h1⟩ | ⟨rfl, h1⟩ | ⟨e, e', o, rfl, rfl, rfl, h1⟩
  · rcases nilA_inv hb hq with ⟨e2, o2, h, rfl, rfl, h2⟩ | ⟨h, _⟩ | ⟨_, _, _, h, _⟩
    · cases h
      refine ⟨?_, rfl, rfl, fun op X Y => eqGuard_at_pointer _ _ _ _ _ _⟩
      have hk : P.underlying t = some (.pointer e) := hk
      rw [equal_step, Op.equalIn, Sem.run_bind, run_underlying hk]
      cases o with
      | none => rfl
      | some a1 =>
        cases o2 with
        | none => rfl
        | some a2 =>
          rw [Bool.or_eq_true] at hn
          rcases hn with hn | hn
          · cases h1 hn
          · cases h2 hn
    · cases h
    · cases h
  · rcases nilA_inv hb hq with ⟨e2, o2, h, _⟩ | ⟨h, h2⟩ | ⟨_, _, _, h, _⟩
    · cases h
    · obtain ⟨f1, f2, f3, hk⟩ := hk
      rcases h1 with ⟨rfl, rfl⟩ | ⟨f, c, d, rfl, rfl, n1⟩
      · refine ⟨?_, ?_, ?_, fun op X Y => eqGuard_at_nilFunc _ _ _ _ _⟩
        · rw [equal_step, Op.equalIn, Sem.run_bind, run_underlying hk]
          rcases h2 with ⟨rfl, rfl⟩ | ⟨f, c, d, rfl, rfl, n2⟩ <;> rfl
        · rcases h2 with ⟨rfl, rfl⟩ | ⟨f, c, d, rfl, rfl, n2⟩ <;> rfl
        · rcases h2 with ⟨rfl, rfl⟩ | ⟨f, c, d, rfl, rfl, n2⟩ <;> rfl
      · rcases h2 with ⟨rfl, rfl⟩ | ⟨f', c', d', rfl, rfl, n2⟩
        · refine ⟨?_, rfl, rfl, fun op X Y => eqGuard_at_func _ _ _ _ _ _ _ _⟩
          rw [equal_step, Op.equalIn, Sem.run_bind, run_underlying hk]
          rfl
        · rw [n1, n2] at hn
          cases hn
    · cases h
  · rcases nilA_inv hb hq with ⟨e2, o2, h, _⟩ | ⟨h, _⟩ | ⟨_, _, o2, h, rfl, rfl, h2⟩
    · cases h
    · cases h
    · cases h
      refine ⟨?_, ?_, ?_, fun op X Y => eqGuard_at_map _ _ _ _ _ _⟩
      · have hk : P.underlying t = some (.map e e') := hk
        rw [equal_step, Op.equalIn, Sem.run_bind, run_underlying hk]
        cases o with
        | none => rfl
        | some a1 =>
          cases o2 with
          | none => rfl
          | some a2 =>
            rw [Bool.or_eq_true] at hn
            rcases hn with hn | hn
            · cases h1 hn
            · cases h2 hn
      · cases o <;> cases o2 <;> rfl
      · cases o <;> cases o2 <;> rfl

theorem bOp_ok {op : BinOp} {k : TK} {t : TypeId} (hk : KindOk P t k) {a b : AV u} {x y : Value} (ha : AR u V L w Im a x) (hb : AR u V L w Im b y) {kk : AV u → Option R} {z : R} (h : bOp op k a b kk = some z) (X Y : Operand) :
    Pure P u V L w Im (do eqGuard op t X Y x y; binOp op t x y) kk z := by
  have key : ∀ m : Sem Value, eqGuard op t X Y x y = pure () → Pure P u V L w Im m kk z → binOp op t x y = m → Pure P u V L w Im (do eqGuard op t X Y x y; binOp op t x y) kk z := by
    intro m h1 h2 h3
    rw [h1, h3]
    exact h2
  unfold bOp at h
  split at h
  · rename_i k1 n1 k2 n2
    have e1 := CR.int_inv (show CR u w Im x ⟨.int k1, n1⟩ from ha)
    have e2 := CR.int_inv (show CR u w Im y ⟨.int k2, n2⟩ from hb)
    subst e1 e2
    refine key _ (eqGuard_at_int _ _ _ _ _ _ _) ?_ rfl
    split at h
    · exact bShift_ok h t
    · exact bShift_ok h t
    · cases hke : kindEq k1 k2 with
      | false => rw [hke] at h; cases h
      | true =>
        rw [hke, cond_true] at h
        have : k1 = k2 := of_decide_eq_true hke
        subst this
        exact bInt_ok h t
  · rename_i s1 s2
    have e1 := CR.str_inv (show CR u w Im x ⟨.str, s1⟩ from ha)
    have e2 := CR.str_inv (show CR u w Im y ⟨.str, s2⟩ from hb)
    subst e1 e2
    exact key _ (eqGuard_at_string _ _ _ _ _ _) (bStr_ok h t) rfl
  · rename_i b1 b2
    have e1 := CR.bool_inv (show CR u w Im x ⟨.bool, b1⟩ from ha)
    have e2 := CR.bool_inv (show CR u w Im y ⟨.bool, b2⟩ from hb)
    subst e1 e2
    split at h
    · exact key _ (eqGuard_at_bool _ _ _ _ _ _) (bBool_ok h t hk) rfl
    · cases h
  · cases hn : (isNil a || isNil b) with
    | false => rw [hn] at h; cases h
    | true =>
      rw [hn, cond_true] at h
      split at h
      · rename_i p q hp hq
        obtain ⟨h1, h2, h3, h4⟩ := nilA_ok hk ha hb hp hq hn
        have := equal_of h1 op h2 h3
        cases op <;> simp only at h
        case eql => exact key _ (h4 _ _ _) ⟨_, _, this.1, h, .bool _⟩ rfl
        case neq => exact key _ (h4 _ _ _) ⟨_, _, this.2, h, .bool _⟩ rfl
        all_goals cases h
      · cases h

theorem uOp_ok {op : UnOp} {a : AV u} {x : Value} (ha : AR u V L w Im a x) {kk : AV u → Option R} {z : R} (h : uOp op a kk = some z) : Pure P u V L w Im (Op.unary op x) kk z := by
  unfold uOp at h
  split at h
  · rename_i b
    have e := CR.bool_inv (show CR u w Im x ⟨.bool, b⟩ from ha)
    subst e
    exact ⟨_, _, rfl, h, .bool _⟩
  · rename_i k n
    have e := CR.int_inv (show CR u w Im x ⟨.int k, n⟩ from ha)
    subst e
    exact ⟨_, _, rfl, h, .int _ _⟩
  · rename_i k n
    have e := CR.int_inv (show CR u w Im x ⟨.int k, n⟩ from ha)
    subst e
    exact ⟨_, _, rfl, h, .int _ _⟩
  · cases h
end
end Go.Proofs.YtmppaodhihnejaaGreat.M
