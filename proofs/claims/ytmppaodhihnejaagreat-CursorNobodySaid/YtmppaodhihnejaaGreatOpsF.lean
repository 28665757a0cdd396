/- Rows made, appended to, cleared. -/
import Derived.Test.YtmppaodhihnejaaGreatOpsE
set_option linter.unusedVariables false
namespace Go.Proofs.YtmppaodhihnejaaGreat.M
open Go

section
variable {P : Program} {u : Uni} {R : Type} {fx : Fix} {V : Nat → Value} {w : World} {Im : Nat → Prop} {ob : Nat → Ob u}

/-- A row comes to be, in a block that is new. -/
theorem Inv.newRow (h : Inv u fx V w Im ob) {dk : Nat} (hf : ob dk = .fresh) {e : TypeId} {τ : Ty} {xs : List (u.D τ)} {v : Value} {w' : World}
    (hs : Step u fx V w Im ob V w' Im ob) (hrow : rowR u w' Im e τ xs v) (hb : ∀ g, ownB v = some g → w.heap.size ≤ g ∧ g < w'.heap.size) :
    Step u fx V w Im ob (M.upd V dk v) w' Im (M.upd ob dk (.row e τ xs)) := by
  refine hs.trans (hs.inv.here dk (.row e τ xs) v (fun hl => absurd hf (Lv_iff.1 hl)) (by simp) (fun E => ?_) (fun p hp => ?_))
  · rcases hrow with h0 | ⟨g, cap, cur, h1, h2, h3, h4, h5, h6⟩
    · exact .inl h0
    · exact .inr ⟨g, cap, cur, h1, h2, h3, h4, h5, h6.mono fun _ _ => CR.ext E⟩
  · simp only [plc, Option.map_eq_some_iff] at hp
    obtain ⟨g, hg, rfl⟩ := hp
    obtain ⟨b1, b2⟩ := hb g hg
    refine ⟨fun k p hk hp hc => ?_, fun hi => ?_, b2, .inr (Nat.le_trans h.fr.size b1)⟩
    · have := h.hr.lt k p hp
      have := hc.1
      simp only at this
      omega
    · have := h.hr.imLt g hi
      omega

theorem repL_R2 {α β : Type} {r : α → β → Prop} {xs : List α} {ys : List β} (h : R2 r xs ys) : ∀ n, R2 r (repL xs n) (repL ys n)
  | 0 => trivial
  | n + 1 => h.app (repL_R2 h n)
theorem repL_length {α : Type} (xs : List α) : ∀ n, (repL xs n).length = n * xs.length
  | 0 => by simp [repL]
  | n + 1 => by rw [repL, List.length_append, repL_length xs n, Nat.succ_mul]; omega

theorem fill_foldL (off : Nat) : ∀ (l : List Value) (k : Nat) (vs : List Value), (l.zipIdx k).foldl (fun (cs : Array Value) (p : Value × Nat) => cs.setIfInBounds (off + p.2) p.1) vs.toArray = (putAt vs (off + k) l).toArray
  | [], k, vs => rfl
  | c :: l, k, vs => by
    simp only [List.zipIdx_cons, List.foldl_cons, putAt]
    rw [List.setIfInBounds_toArray, fill_foldL off l (k + 1), Nat.add_assoc]
theorem fill_fold (off : Nat) (arr : Array Value) (vs : List Value) : (arr.zipIdx.foldl (fun (cs : Array Value) (p : Value × Nat) => cs.setIfInBounds (off + p.2) p.1) vs.toArray) = (putAt vs off arr.toList).toArray := by
  rw [← Array.foldl_toList, Array.toList_zipIdx, fill_foldL]
  rfl

/-- The parts of a composite, laid into its cells. -/
theorem fillA_ok {V : Nat → Value} {L : Nat → Prop} {fs : Nat → Option (Nat × Nat)} : ∀ {parts : List (Nat × Slot u)} {pv : List (Nat × Value)} {cs : List (AV u)} {vs : List Value} (hr : R2 (AR u V L w Im) cs vs)
    (hp : R2 (fun a b => a.1 = b.1 ∧ SlR u V L w Im a.2 b.2) parts pv) {cs' : List (AV u)} (h : fillA fs cs parts = some cs'),
    ∃ vs', Instr.fill fs vs.toArray pv = some vs'.toArray ∧ R2 (AR u V L w Im) cs' vs'
  | [], [], cs, vs, hr, _, cs', h => by
    cases h
    exact ⟨vs, rfl, hr⟩
  | [], _ :: _, _, _, _, hp, _, _ => hp.elim
  | _ :: _, [], _, _, _, hp, _, _ => hp.elim
  | (i, x) :: parts, (j, v) :: pv, cs, vs, hr, hp, cs', h => by
    obtain ⟨⟨e, hx⟩, hp⟩ := hp
    simp only at e hx
    subst e
    cases x with
    | sv x =>
      simp only [fillA] at h
      split at h
      · rename_i off s hfs
        cases hb : (Nat.beq x.cells.length s && Nat.ble (off + s) cs.length && noDead x.cells) with
        | false => rw [hb] at h; cases h
        | true =>
          rw [hb, cond_true] at h
          rw [Bool.and_eq_true, Bool.and_eq_true] at hb
          have e1 := Nat.eq_of_beq_eq_true hb.1.1
          have e2 := Nat.le_of_ble_eq_true hb.1.2
          have hnd := noDead_ne hb.2
          have hx : SR u V L w Im x v := hx
          have hR : R2 (AR u V L w Im) x.cells v.cells.toList := hx.cells (fun a e => by
            subst e
            exact AR.one hx (hnd a (by simp [SV.cells])))
          have hl := hR.length
          have hl2 := hr.length
          obtain ⟨vs', h1, h2⟩ := fillA_ok (putAt_R2 off hr hR) hp h
          refine ⟨vs', ?_, h2⟩
          rw [Array.length_toList (xs := v.cells)] at hl
          simp only [Instr.fill, hfs]
          rw [if_neg (by simp; omega), fill_fold]
          exact h1
      · cases h
    | tup _ => simp [fillA] at h
    | und => simp [fillA] at h
    | dead => simp [fillA] at h

theorem R2_parts {V : Nat → Value} {L : Nat → Prop} {ev : Operand → Slot u} {ρ : Operand → Value} (he : ∀ x, SlR u V L w Im (ev x) (ρ x)) : ∀ (ps : List (Nat × Operand)), R2 (fun (a : Nat × Slot u) (b : Nat × Value) => a.1 = b.1 ∧ SlR u V L w Im a.2 b.2) (partsOf ev ps) (ps.map fun p => (p.1, ρ p.2))
  | [] => trivial
  | (i, x) :: r => ⟨⟨rfl, he x⟩, R2_parts he r⟩

theorem zero_AR {T : TypeId → Option (TI u)} (hT : TOk P T) {t : TypeId} {ti : TI u} (ht : T t = some ti) (V : Nat → Value) (L : Nat → Prop) (w : World) (Im : Nat → Prop) :
    ∃ i z, P.info? t = some i ∧ i.size = ti.size ∧ i.bytes = ti.bytes ∧ i.zero = some z ∧ R2 (AR u V L w Im) ti.zero z.cells.toList := by
  obtain ⟨i, z, h1, h2, h3, h4, h5, _⟩ := (hT _ _ ht).inf
  exact ⟨i, z, h1, h2, h3, h4, h5 V L w Im⟩

theorem repL_get {α : Type} (xs : List α) : ∀ (n j : Nat), j < n * xs.length → (repL xs n)[j]? = xs[j % xs.length]?
  | 0, j, h => by simp at h
  | n + 1, j, h => by
    rw [Nat.succ_mul] at h
    rw [repL]
    by_cases c : j < xs.length
    · rw [List.getElem?_append_left c, Nat.mod_eq_of_lt c]
    · rw [List.getElem?_append_right (by omega), repL_get xs n _ (by omega), Nat.mod_eq_sub_mod (a := j) (by omega)]
theorem cells_range (z : Array Value) (len : Nat) : ((Array.range (len * z.size)).map (fun i => z[i % z.size]!)) = (repL z.toList len).toArray := by
  apply Array.ext'
  apply List.ext_getElem?
  intro j
  by_cases c : j < len * z.size
  · have hz : 0 < z.size := Nat.pos_of_ne_zero (by intro e; rw [e] at c; simp at c)
    have hm := Nat.mod_lt j hz
    rw [List.toList_toArray, repL_get _ _ _ (by simpa using c)]
    simp [c, hm]
  · rw [List.getElem?_eq_none (by simp; omega), List.getElem?_eq_none (by simp [repL_length]; omega)]
theorem fillA_len {fs : Nat → Option (Nat × Nat)} : ∀ {parts : List (Nat × Slot u)} {cs cs' : List (AV u)}, fillA fs cs parts = some cs' → cs'.length = cs.length
  | [], cs, cs', h => by cases h; rfl
  | (i, .sv x) :: parts, cs, cs', h => by
    simp only [fillA] at h
    split at h
    · rename_i off s hfs
      cases hb : (Nat.beq x.cells.length s && Nat.ble (off + s) cs.length && noDead x.cells) with
      | false => rw [hb] at h; cases h
      | true =>
        rw [hb, cond_true] at h
        rw [fillA_len h, putAt_length]
    · cases h
  | (i, .tup _) :: parts, cs, cs', h => by simp [fillA] at h
  | (i, .dead) :: parts, cs, cs', h => by simp [fillA] at h

theorem buildSlice_ok {T : TypeId → Option (TI u)} (hT : TOk P T) (h : Inv u fx V w Im ob) {t e : TypeId} {ti : TI u} (ht : P.underlying t = some (.slice e)) (hte : T e = some ti) {len : Nat}
    {parts : List (Nat × Slot u)} {pv : Array (Nat × Value)} (hp : R2 (fun (a : Nat × Slot u) (b : Nat × Value) => a.1 = b.1 ∧ SlR u V (Lv u ob) w Im a.2 b.2) parts pv.toList)
    {dk : Nat} {kk : AV u → List (Nat × Ob u) → Option R} {z : R} (hk : bsOp ob dk e (some ti) len parts kk = some z) :
    ∃ val r us V' w' Im', (Instr.buildSlice t len pv).run P w = .ok val w' ∧ kk r us = some z ∧ Step u fx V w Im ob V' w' Im' (upds ob us) ∧ AR u V' (Lv u (upds ob us)) w' Im' r val := by
  have hti := hT _ _ hte
  obtain ⟨i, zv, i1, i2, i3, i4, i5⟩ := zero_AR hT hte V (Lv u ob) w Im
  unfold bsOp at hk
  simp only at hk
  split at hk
  · rename_i τ hd
    split at hk
    · rename_i cs hfill
      split at hk
      · rename_i xs vs hel
        split at hk
        · rename_i hf
          cases hbb : (Nat.ble len 1000 && Nat.ble (len * ti.size) 16777216) with
          | false => rw [hbb] at hk; cases hk
          | true =>
          rw [hbb, cond_true] at hk
          rw [Bool.and_eq_true] at hbb
          have hlen := Nat.le_of_ble_eq_true hbb.1
          have hsz := Nat.le_of_ble_eq_true hbb.2
          have hzl : zv.cells.size = ti.size := by rw [← Array.length_toList, ← i5.length]; exact hti.len
          obtain ⟨vals, hf1, hf2⟩ := fillA_ok (repL_R2 i5 len) hp hfill
          have hcl : cs.length = len * ti.size := by rw [fillA_len hfill, repL_length, hti.len]
          obtain ⟨Im1, s1, hc, hn⟩ := toElems_ok h hf2 hcl hel
          have hrun : (Instr.buildSlice t len pv).run P w = .ok (.slice (some ⟨w.heap.size, 0, none⟩) len len) (w.alloc (.cells vals.toArray e)) := by
            have hz : ¬ len * i.size > 2 ^ 24 := by rw [i2]; exact Nat.not_lt.2 hsz
            have hpl := parts
            rw [← i2] at hf1
            by_cases h0 : len * i.size = 0
            · have hl0 : len = 0 := by
                rcases Nat.mul_eq_zero.1 h0 with h0 | h0
                · exact h0
                · rw [i2] at h0; have := hti.pos; omega
              subst hl0
              simp only [repL] at hf1
              have he : ((Array.range (0 * i.size)).map fun x => (#[] : Array Value)[x % (#[] : Array Value).size]!) = ([] : List Value).toArray := by simp
              simp only [Instr.buildSlice, Sem.run_bind, run_underlying ht, Result.andThen_ok, run_sizeOf i1]
              rw [if_neg hz, if_pos h0, pure_bind, he, hf1]
              simp [newRow]
            · have hcr := cells_range zv.cells len
              rw [hzl, ← i2] at hcr
              simp only [Instr.buildSlice, Sem.run_bind, run_underlying ht, Result.andThen_ok, run_sizeOf i1]
              rw [if_neg hz, if_neg h0]
              simp only [Sem.run_bind, run_zeroValue i1 i4, Sem.run_pure, Result.andThen_ok, hzl, ← i2, hcr, hf1]
              simp [newRow]
          have ho1 : upds ob vs dk = .fresh := hf
          have hval : vals.length = len * sz u τ := by rw [hc.length, flats_length, hn]
          have s2 := s1.inv.newRow ho1 (e := e) (τ := τ) (xs := xs) (v := .slice (some ⟨w.heap.size, 0, none⟩) len len) (s1.inv.alloc (.cells vals.toArray e)) (by
            cases len with
            | zero => exact .inl ⟨List.eq_nil_of_length_eq_zero hn, _, rfl⟩
            | succ m =>
              refine .inr ⟨w.heap.size, m, vals.toArray, by rw [hn], heap_alloc_new w _, by omega, by unfold maxLen; omega, by simpa using hval, ?_⟩
              rw [hn, List.take_of_length_le (by simp [hval])]
              exact hc.mono fun _ _ => CR.ext (s1.inv.alloc (.cells vals.toArray e)).ext) (fun g hg => by
            cases len with
            | zero => simp [ownB] at hg
            | succ m => simp [ownB] at hg; subst hg; simp)
          have s3 := s1.trans s2
          refine ⟨_, _, _, M.upd V dk (.slice (some ⟨w.heap.size, 0, none⟩) len len), w.alloc (.cells vals.toArray e), Im1, hrun, hk, by rw [upds_app]; exact s3, ?_⟩
          rw [upds_app]
          exact ⟨Lv_iff.2 (by show M.upd _ dk _ dk ≠ _; rw [upd_same]; simp), by rw [upd_same], rfl⟩
        · cases hk
      · cases hk
    · cases hk
  · cases hk

/-! ### append -/
/-- What is appended: so many elements, these cells, whatever is drawn meanwhile. -/
structure Src (P : Program) (w : World) (size : Nat) (x : Value) (m : Nat) (news : List Value) : Prop where
  len : ∀ w', (Builtin.lenOf x).run P w' = .ok m w'
  cells : (Builtin.firstCells size m x).run P w = .ok news.toArray w
  cells' : (Builtin.firstCells size m x).run P w.drew = .ok news.toArray w.drew
  size : news.length = m * size

theorem run_app_stay {t tx ty e : TypeId} {i : TypeInfo} {dx : TypeDesc} (ht : P.underlying t = some (.slice e)) (hx : P.underlying tx = some dx) (hd : (∃ e', dx = .slice e') ∨ dx = .string) (hi : P.info? e = some i)
    {x : Value} {m : Nat} {news : List Value} (hs : Src P w i.size x m news) (A : Option Addr) (n c : Nat) (hle : n + m ≤ c) {w' : World}
    (hst : (match A with | some a => storeCells (a.add (n * i.size)) news | none => pure ()).run P w = .ok () w') :
    (Builtin.append_ #[t, tx] ty #[.slice A n c, x]).run P w = .ok (.slice A (n + m) c) w' := by
  cases A with
  | none =>
    simp only [Sem.run_pure] at hst
    cases hst
    rcases hd with ⟨e', rfl⟩ | rfl <;> simp [Builtin.append_, run_underlying ht, run_underlying hx, sizeOf, typeInfo, hi, hs.len, hle, hs.cells]
  | some a =>
    simp only at hst
    rcases hd with ⟨e', rfl⟩ | rfl <;> simp [Builtin.append_, run_underlying ht, run_underlying hx, sizeOf, typeInfo, hi, hs.len, hle, hs.cells, hst]

theorem run_app_grow {t tx ty e : TypeId} {i : TypeInfo} {z : Value} {dx : TypeDesc} (ht : P.underlying t = some (.slice e)) (hx : P.underlying tx = some dx) (hd : (∃ e', dx = .slice e') ∨ dx = .string) (hi : P.info? e = some i) (hz : i.zero = some z) (hb : 0 < i.bytes)
    {x : Value} {m : Nat} {news : List Value} (hs : Src P w i.size x m news) (A : Option Addr) (n c : Nat) (hlt : c < n + m) (hroom : (n + m) * i.bytes ≤ 140737488355328)
    {olds : List Value} (hol : olds.length = n * i.size) (holds : ∀ a, A = some a → ∀ (j : Nat) v, olds[j]? = some v → w.cell? (a.add j) = some v) (hA : A = none → n = 0) :
    (Builtin.append_ #[t, tx] ty #[.slice A n c, x]).run P w =
      .ok (.slice (some ⟨w.heap.size, 0, none⟩) (n + m) (grownCap w (n + m) c e)) (w.drew.alloc (.cells (olds.toArray ++ (news.toArray ++ Builtin.zeroCells z.cells (grownCap w (n + m) c e - (n + m)))) e)) := by
  have hn : ¬ (n + m ≤ c) := by omega
  have hle : n + m ≤ 140737488355328 := Nat.le_trans (Nat.le_mul_of_pos_right _ hb) hroom
  have h63' : ¬ (9223372036854775807 < ((n : Int) + (m : Int))) := by omega
  have h48 := growslice_fits (need := n + m) (old := c) (by omega) hroom
  have h48' : ¬ (281474976710656 < Builtin.nextslicecap (n + m) c * i.bytes) := by omega
  have hf := hs.cells'
  have hl := hs.len
  have hfo : (Builtin.firstCells i.size n (.slice A n c)).run P w.drew = .ok olds.toArray w.drew := by
    cases A with
    | none =>
      have := hA rfl
      subst this
      have : olds = [] := List.eq_nil_of_length_eq_zero (by omega)
      subst this
      simp [Builtin.firstCells]
    | some a => exact run_firstCells_some (P := P) w.drew i.size n a n c olds hol (by simpa using holds a rfl)
  have hb0 : ¬ i.bytes = 0 := by omega
  rcases hd with ⟨e', rfl⟩ | rfl <;> simp [Builtin.append_, run_underlying ht, run_underlying hx, sizeOf, typeInfo, zeroValue, hi, hz, hl, hn, h63', h48', hb0, Question.forced, hf, hfo, newRow, grownCap]
end
end Go.Proofs.YtmppaodhihnejaaGreat.M
