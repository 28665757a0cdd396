/- Regions whose order is drawn: all orders come to the same. -/
import Derived.Test.YtmppaodhihnejaaGreatMono3
set_option linter.unusedVariables false
namespace Go.Proofs.YtmppaodhihnejaaGreat.M
open Go

section
variable {u : Uni} {R : Type}

/-! ### What an operation goes by -/
def opsOf : Op → List Operand
  | .move x => [x]
  | .assign x => [x]
  | .pick c a b => [c, a, b]
  | .box _ x => [x]
  | .build _ ps => ps.toList.map (·.2)
  | .buildSlice _ _ ps => ps.toList.map (·.2)
  | .load _ a => [a]
  | .store _ a x => [a, x]
  | .nilCheck x => [x]
  | .binOp _ _ x y _ => [x, y]
  | .unOp _ _ x => [x]
  | .convert _ _ x => [x]
  | .makeFunc _ _ caps => caps.toList
  | .lookup _ m k _ => [m, k]
  | .mapUpdate _ m k x => [m, k, x]
  | .slice _ x lo hi mx => x :: (lo.toList ++ (hi.toList ++ mx.toList))
  | .fieldAddr _ x _ => [x]
  | .field _ x _ => [x]
  | .indexAddr _ x i => [x, i]
  | .index _ x i => [x, i]
  | .range _ x => [x]
  | .next it _ => [it]
  | .extract x _ => [x]
  | .call ⟨.builtin _, as, _⟩ => as.toList
  | .call ⟨.value g, as, _⟩ => g :: as.toList
  | _ => []
theorem partsOf_ev {ev ev' : Operand → Slot u} : ∀ {ps : List (Nat × Operand)}, (∀ x ∈ ps.map (·.2), ev x = ev' x) → partsOf ev ps = partsOf ev' ps
  | [], _ => rfl
  | (i, x) :: r, h => by
    show (i, ev x) :: partsOf ev r = (i, ev' x) :: partsOf ev' r
    rw [h x (by simp), partsOf_ev (ps := r) (fun y hy => h y (by simp only [List.map_cons, List.mem_cons]; exact .inr hy))]
theorem bndO_ev {ev ev' : Operand → Slot u} {o : Option Operand} (h : ∀ x ∈ o.toList, ev x = ev' x) : bndO ev o = bndO ev' o := by
  cases o with
  | none => rfl
  | some x => simp only [bndO]; rw [h x (by simp)]
theorem sem_ev {cx : Cx u R} {ev ev' : Operand → Slot u} {lk : Nat → Ob u} {dk : Nat} {op : Op} (h : ∀ x ∈ opsOf op, ev x = ev' x) (kk : Kt u R) : sem cx ev lk dk op kk = sem cx ev' lk dk op kk := by
  have hm : ∀ xs : List Operand, (∀ x ∈ xs, ev x = ev' x) → xs.map ev = xs.map ev' := fun xs hx => List.map_congr_left hx
  cases op with
  | build t ps => simp only [sem]; rw [partsOf_ev (ps := ps.toList) h]
  | buildSlice t n ps => simp only [sem]; rw [partsOf_ev (ps := ps.toList) h]
  | makeFunc fn first caps => simp only [sem]; rw [hm caps.toList h]
  | call c =>
    obtain ⟨callee, as, ats⟩ := c
    cases callee with
    | builtin b => simp only [sem]; rw [hm as.toList h]
    | value g =>
      have h1 : ev g = ev' g := h g (.head _)
      have h2 := hm as.toList (fun x hx => h x (.tail _ hx))
      simp only [sem]
      rw [h1, h2]
    | invoke r n => rfl
  | slice t x lo hi mx =>
    have h1 : ev x = ev' x := h x (.head _)
    have h2 : bndO ev lo = bndO ev' lo := bndO_ev fun y hy => h y (.tail _ (List.mem_append_left _ hy))
    have h3 : bndO ev hi = bndO ev' hi := bndO_ev fun y hy => h y (.tail _ (List.mem_append_right _ (List.mem_append_left _ hy)))
    have h4 : bndO ev mx = bndO ev' mx := bndO_ev fun y hy => h y (.tail _ (List.mem_append_right _ (List.mem_append_right _ hy)))
    simp only [sem]
    rw [h1, h2, h3, h4]
  | next it b => cases b <;> simp only [sem] <;> rw [h it (by simp [opsOf])]
  | _ => simp only [sem] <;> simp only [opsOf, List.mem_cons, List.not_mem_nil, or_false, forall_eq_or_imp, forall_eq] at h <;> simp only [h]

/-! ### What an operation reads of memory -/
theorem cellsAt_lk {lk lk' : Nat → Ob u} : ∀ {n k : Nat}, (∀ i, i ∈ List.range' k n → lk i = lk' i) → cellsAt lk k n = cellsAt lk' k n
  | 0, k, _ => rfl
  | n + 1, k, h => by
    simp only [cellsAt]
    rw [h k (by simp [List.range'_succ]), cellsAt_lk (n := n) (k := k + 1) (fun i hi => h i (by rw [List.range'_succ]; exact .tail _ hi))]
theorem isCells_lk {lk lk' : Nat → Ob u} : ∀ {n k : Nat}, (∀ i, i ∈ List.range' k n → lk i = lk' i) → isCells lk k n = isCells lk' k n
  | 0, k, _ => rfl
  | n + 1, k, h => by
    simp only [isCells]
    rw [h k (by simp [List.range'_succ]), isCells_lk (n := n) (k := k + 1) (fun i hi => h i (by rw [List.range'_succ]; exact .tail _ hi))]
theorem range_le {k m n i : Nat} (h : i ∈ List.range' k m) (hm : m ≤ n) : i ∈ List.range' k n := by
  rw [List.mem_range'] at h ⊢
  obtain ⟨j, hj, e⟩ := h
  exact ⟨j, by omega, e⟩
theorem ldOp_lk {lk lk' : Nat → Ob u} {t : Option (TI u)} {a : AV u} (h : ∀ i ∈ refs a, lk i = lk' i) (kk : Slot u → Option R) : ldOp lk t a kk = ldOp lk' t a kk := by
  unfold ldOp
  cases t with
  | none => rfl
  | some ti =>
    cases a with
    | ptr k n =>
      simp only
      cases hb : Nat.ble ti.size n with
      | false => rfl
      | true => rw [cellsAt_lk (fun i hi => h i (range_le hi (Nat.le_of_ble_eq_true hb)))]
    | ep k s i o => simp only; rw [h k (by simp [refs])]
    | _ => rfl
theorem iaOp_lk {lk lk' : Nat → Ob u} {t e : Option (TI u)} {a : AV u} {i : Int} (h : ∀ i ∈ refs a, lk i = lk' i) (kk : AV u → Option R) : iaOp lk t e a i kk = iaOp lk' t e a i kk := by
  unfold iaOp
  split
  · cases a with
    | own k => simp only; rw [h k (by simp [refs])]
    | view k s lo n c => simp only; rw [h k (by simp [refs])]
    | c x => obtain ⟨τ, y⟩ := x; cases τ <;> rfl
    | _ => rfl
  · rfl
  · rfl
theorem sliceOp_lk {lk lk' : Nat → Ob u} {τ : Ty} {a : AV u} {lo hi mx : Option Int} (h : ∀ i ∈ refs a, lk i = lk' i) (kk : AV u → Option R) : sliceOp lk τ a lo hi mx kk = sliceOp lk' τ a lo hi mx kk := by
  unfold sliceOp
  cases a with
  | own k => simp only; rw [h k (by simp [refs])]
  | view k s lo n c => simp only; rw [h k (by simp [refs])]
  | c x => obtain ⟨τ, y⟩ := x; cases τ <;> rfl
  | _ => rfl
theorem toL_lk {lk lk' : Nat → Ob u} {τ : Ty} {a : AV u} (h : ∀ i ∈ refs a, lk i = lk' i) : toL lk τ a = toL lk' τ a := by
  unfold toL
  cases a with
  | own k => simp only; rw [h k (by simp [refs])]
  | view k s lo n c => simp only; rw [h k (by simp [refs])]
  | _ => rfl
theorem lenA_lk {lk lk' : Nat → Ob u} {t : TK} {a : AV u} (h : ∀ i ∈ refs a, lk i = lk' i) : lenA lk t a = lenA lk' t a := by
  unfold lenA
  cases t with
  | sl e => cases a with
    | own k => simp only; rw [h k (by simp [refs])]
    | c x => obtain ⟨τ, y⟩ := x; cases τ <;> rfl
    | _ => rfl
  | map k e => cases a with
    | map k => simp only; rw [h k (by simp [refs])]
    | raw v => cases v with
      | map r => cases r <;> rfl
      | _ => rfl
    | _ => rfl
  | _ => cases a <;> rfl
theorem conv_lk {lk lk' : Nat → Ob u} {s d : TK} {b : Bool} {a : AV u} (h : ∀ i ∈ refs a, lk i = lk' i) (kk : AV u → Option R) : conv lk s d b a kk = conv lk' s d b a kk := by
  unfold conv
  rw [toL_lk h]
theorem stOp_lk {lk lk' : Nat → Ob u} {t : Option (TI u)} {k n : Nat} {v : SV u} (h : ∀ i ∈ refs (AV.ptr (u := u) k n), lk i = lk' i) (kk : List (Nat × Ob u) → Option R) : stOp lk t (.ptr k n) v kk = stOp lk' t (.ptr k n) v kk := by
  unfold stOp
  cases t with
  | none => rfl
  | some ti =>
    simp only
    cases hb : Nat.ble ti.size n with
    | false => simp only [Bool.false_and]
    | true => rw [isCells_lk (fun i hi => h i (range_le hi (Nat.le_of_ble_eq_true hb)))]
theorem touchIn_mem {ev : Operand → Slot u} {tk : List Nat} : ∀ {xs : List Operand}, touchIn ev tk xs = true → ∀ x ∈ xs, ∀ k ∈ slotRefs (ev x), k ∈ tk
  | [], _, x, h => by simp at h
  | y :: r, ht, x, h => by
    simp only [touchIn, Bool.and_eq_true] at ht
    cases h with
    | head => exact allIn_mem ht.1
    | tail _ h => exact touchIn_mem ht.2 x h
theorem sem_lk {cx : Cx u R} {ev : Operand → Slot u} {lk lk' : Nat → Ob u} {dk : Nat} {op : Op} {tk : List Nat} (ht : touchOk op ev tk = true) (h : ∀ k ∈ tk, lk k = lk' k) (kk : Kt u R) : sem cx ev lk dk op kk = sem cx ev lk' dk op kk := by
  have one : ∀ x, touchIn ev tk [x] = true → ∀ a, ev x = .sv (.v a) → ∀ i ∈ refs a, lk i = lk' i := by
    intro x hx a ha i hi
    refine h i (touchIn_mem hx x (.head _) i ?_)
    rw [ha]
    simp [slotRefs, SV.cells, hi]
  cases op with
  | store t a x =>
    have ht : (isPtr (ev a) && allIn tk (slotRefs (ev a))) = true := ht
    rw [Bool.and_eq_true] at ht
    have h1 := ht.1
    unfold isPtr at h1
    split at h1
    · rename_i k n ha
      have hk : ∀ i ∈ refs (AV.ptr (u := u) k n), lk i = lk' i := fun i hi => h i (allIn_mem ht.2 i (by rw [ha]; simpa [slotRefs, SV.cells] using hi))
      simp only [sem, ha]
      cases hx : ev x with
      | sv y => exact stOp_lk hk _
      | _ => rfl
    · cases h1
  | load t x =>
    have ht : touchIn ev tk [x] = true := ht
    simp only [sem]
    split
    · rename_i a ha
      exact ldOp_lk (one x ht a ha) _
    · rfl
  | convert s d x =>
    have ht : touchIn ev tk [x] = true := ht
    simp only [sem]
    split
    · rename_i a ts td ha _ _
      exact conv_lk (one x ht a ha) _
    · rfl
  | slice t x lo hi mx =>
    have ht : touchIn ev tk [x] = true := ht
    simp only [sem]
    split
    · rename_i a ti l hh m ha _ _ _ _
      split
      · rfl
      · split
        · exact sliceOp_lk (one x ht _ ha) _
        · rfl
      · rfl
    · rfl
  | indexAddr t x i =>
    have ht : touchIn ev tk [x] = true := ht
    simp only [sem]
    split
    · rename_i a n ha _
      exact iaOp_lk (one x ht a ha) _
    · rfl
  | call c =>
    obtain ⟨callee, as, ats⟩ := c
    cases callee with
    | builtin b =>
      cases b with
      | len =>
        have ht : touchIn ev tk as.toList = true := ht
        obtain ⟨as⟩ := as
        simp only [sem]
        match as, ht with
        | [], _ => rfl
        | x :: y :: r, _ =>
          simp only [List.map_cons]
          cases hx : ev x with
          | sv s => cases s <;> rfl
          | _ => rfl
        | [x], ht =>
          have one' := one x ht
          simp only [List.map_cons, List.map_nil]
          cases hx : ev x with
          | sv y =>
            cases y with
            | v a =>
              unfold bltOp
              simp only
              split
              · split
                · rw [lenA_lk (one' a hx)]
                · rfl
              · rfl
            | agg cs => rfl
          | _ => rfl
      | _ => cases ht
    | _ => cases ht
  | _ => first | rfl | (cases ht; done)
end
end Go.Proofs.YtmppaodhihnejaaGreat.M
