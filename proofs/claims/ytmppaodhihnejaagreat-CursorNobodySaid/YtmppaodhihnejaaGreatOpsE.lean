/- Stores; slices made and appended to. -/
import Derived.Test.YtmppaodhihnejaaGreatOpsD
set_option linter.unusedVariables false
namespace Go.Proofs.YtmppaodhihnejaaGreat.M
open Go

section
variable {P : Program} {u : Uni} {R : Type} {fx : Fix} {V : Nat → Value} {w : World} {Im : Nat → Prop} {ob : Nat → Ob u}

theorem heap_setCell_ne (w : World) (ad : Addr) (y : Value) {b : Nat} (h : b ≠ ad.block) : (w.setCell ad y).heap[b]? = w.heap[b]? := Go.RowKit.Below.heap_setCell w ad y b h

/-- A variable's cell is written. -/
theorem Inv.set (h : Inv u fx V w Im ob) {k : Nat} {a0 a : AV u} (ho : ob k = .cell a0) {b o : Nat} (hV : V k = .pointer (some ⟨b, o, none⟩)) {y : Value} (ha : AR u V (Lv u ob) w Im a y) :
    Step u fx V w Im ob V (w.setCell ⟨b, o, none⟩ y) Im (M.upd ob k (.cell a)) := by
  have hob := h.hr.obs k
  rw [ho] at hob
  obtain ⟨ad, y0, e, hsp, hc, hf, _⟩ := hob
  rw [hV] at e
  cases e
  have hp : plc (ob k) (V k) = some (b, some o) := by rw [ho, hV]; rfl
  have hIm := h.hr.notIm k _ hp
  have hOwn := h.fr.ownIn k _ hp
  have := h.upd k (.cell a) (V k) (w.setCell ⟨b, o, none⟩ y) Im (fun _ => rfl) (by simp) rfl rfl rfl (by simp) (fun _ h => h)
    (fun b' hb' => heap_setCell_ne w _ y (fun e => hIm (show Im b from (show b' = b from e) ▸ hb')))
    (fun k' p hk' hp' => by
      by_cases hb : p.1 = b
      · obtain ⟨pb, po⟩ := p
        simp only at hb
        subst hb
        have hnc := h.hr.disj k' k _ _ hk' hp' hp
        cases po with
        | none => exact absurd ⟨rfl, .inl rfl⟩ hnc
        | some o' =>
          have : o ≠ o' := fun e => hnc ⟨rfl, .inr (.inr (by rw [e]))⟩
          exact ⟨World.cell?_setCell_other _ _ _ _ (by first | (simp; done) | simpa using this), World.frozen?_setCell _ _ _ _⟩
      · exact .of_block (heap_setCell_ne w _ y hb))
    (fun E => ⟨_, y, hV, rfl, World.cell?_setCell_same _ _ _ hc, by rw [World.frozen?_setCell]; exact hf, AR.ext E ha⟩)
    (fun p hp' => by
      have hp'' : plc (ob k) (V k) = some p := by rw [ho, hV]; rw [hV] at hp'; exact hp'
      refine ⟨fun k' q hk' hq hcl => h.hr.disj k k' p q (fun e => hk' e.symm) hp'' hq hcl, h.hr.notIm k p hp'', by simpa using h.hr.lt k p hp'', h.fr.ownIn k p hp''⟩)
    (fun b' hb' => .inl hb')
    (fun b' hb' hO => heap_setCell_ne w _ y (fun e => by
      simp only at e
      subst e
      rcases hOwn with hOwn | hOwn
      · exact hO _ hOwn
      · simp only at hOwn; omega))
    (fun b' o' hb' h1 h2 => by
      by_cases e : b' = b
      · subst e
        rcases hOwn with hOwn | hOwn
        · have : o ≠ o' := fun e => h2 (by rw [← e]; exact hOwn)
          exact ⟨World.cell?_setCell_other _ _ _ _ (by first | (simp; done) | simpa using this), World.frozen?_setCell _ _ _ _⟩
        · simp only at hOwn; omega
      · have := heap_setCell_ne w ⟨b, o, none⟩ y (b := b') e
        exact ⟨World.cell?_of_block (w := w) (a := ⟨b', o', none⟩) this, World.frozen?_of_block (w := w) (a := ⟨b', o', none⟩) this⟩)
  rwa [upd_self] at this

theorem isCells_at : ∀ {n k : Nat} {lk : Nat → Ob u}, isCells lk k n = true → ∀ j, j < n → ∃ a, lk (k + j) = .cell a
  | 0, _, _, _, j, h => by omega
  | n + 1, k, lk, h, j, hj => by
    simp only [isCells] at h
    split at h
    · rename_i a ha
      cases j with
      | zero => exact ⟨a, ha⟩
      | succ j =>
        have := isCells_at h j (by omega)
        rwa [show k + (j + 1) = k + 1 + j by omega]
    · cases h

theorem Inv.sets : ∀ {cs : List (AV u)} {vs : List Value} {w : World} {ob : Nat → Ob u} (h : Inv u fx V w Im ob) (k b o : Nat) (hr : R2 (AR u V (Lv u ob) w Im) cs vs) (hV : ∀ j, j < cs.length → V (k + j) = .pointer (some ⟨b, o + j, none⟩)) (hc : ∀ j, j < cs.length → ∃ a, ob (k + j) = .cell a),
    Step u fx V w Im ob V (w.setCells b o vs) Im (upds ob (setCells k cs))
  | [], [], w, ob, h, k, b, o, _, _, _ => .refl h
  | [], _ :: _, _, _, _, _, _, _, hr, _, _ => hr.elim
  | _ :: _, [], _, _, _, _, _, _, hr, _, _ => hr.elim
  | a :: cs, y :: vs, w, ob, h, k, b, o, hr, hV, hc => by
    obtain ⟨a0, h0⟩ := hc 0 (by simp)
    have s1 := h.set (k := k) (b := b) (o := o) (by simpa using h0) (by simpa using hV 0 (by simp)) hr.1
    have s2 := Inv.sets s1.inv (k + 1) b (o + 1) (hr.2.mono fun _ _ => AR.ext s1.ext)
      (fun j hj => by rw [show k + 1 + j = k + (j + 1) by omega, show o + 1 + j = o + (j + 1) by omega]; exact hV (j + 1) (by simp; omega))
      (fun j hj => by
        obtain ⟨a1, h1⟩ := hc (j + 1) (by simp; omega)
        exact ⟨a1, by rw [upd_ne _ _ (by omega), show k + 1 + j = k + (j + 1) by omega]; exact h1⟩)
    exact s1.trans s2

theorem noDead_ne : ∀ {cs : List (AV u)}, noDead cs = true → ∀ a, a ∈ cs → a ≠ .dead
  | [], _, a, h => by simp at h
  | c :: cs, hn, a, h => by
    cases c with
    | dead => cases hn
    | _ =>
      rcases List.mem_cons.1 h with rfl | h
      · simp
      · exact noDead_ne (cs := cs) hn a h

theorem run_storeAt_cells {t : TypeId} {ti : TI u} (ht : TIok P t ti) (b o : Nat) (v : Value) (hl : v.cells.size = ti.size) (hc : ∀ j, j < ti.size → (w.cell? ⟨b, o + j, none⟩).isSome = true ∧ w.frozen? ⟨b, o + j, none⟩ = false) (h1 : ∀ y ∈ v.cells.toList, y.oneCell' = true) :
    (Instr.storeAt t (.pointer (some ⟨b, o, none⟩)) v).run P w = .ok () (w.setCells b o v.cells.toList) := by
  obtain ⟨i, z, g1, g2, _⟩ := ht.inf
  have := run_storeCells_cells (P := P) b o v.cells.toList 0 w (fun j hj => by simpa using (hc j (by rw [← hl]; simpa using hj)).1) (fun j hj => by simpa using (hc j (by rw [← hl]; simpa using hj)).2) h1
  simp only [Nat.add_zero] at this
  simp [Instr.storeAt, Instr.sureAddr, storeVar, run_sizeOf g1, g2, hl, this]

theorem putAt_R2 {α β : Type} {r : α → β → Prop} : ∀ {ys : List α} {zs : List β} {xs : List α} {vs : List β} (i : Nat), R2 r xs vs → R2 r ys zs → R2 r (putAt xs i ys) (putAt vs i zs)
  | [], [], _, _, _, h, _ => h
  | [], _ :: _, _, _, _, _, h => h.elim
  | _ :: _, [], _, _, _, _, h => h.elim
  | y :: ys, z :: zs, xs, vs, i, h, g => putAt_R2 (i + 1) (h.set i y z g.1) g.2
theorem putAt_length {α : Type} : ∀ (ys xs : List α) (i : Nat), (putAt xs i ys).length = xs.length
  | [], _, _ => rfl
  | y :: ys, xs, i => by
    simp only [putAt]
    rw [putAt_length ys _ (i + 1), List.length_set]
theorem putAt_lt {α : Type} : ∀ (ys xs : List α) (i j : Nat), j < i → (putAt xs i ys)[j]? = xs[j]?
  | [], _, _, _, _ => rfl
  | y :: ys, xs, i, j, h => by
    simp only [putAt]
    rw [putAt_lt ys _ (i + 1) j (by omega), List.getElem?_set, if_neg (by omega)]
/-- What a list holds where others were put into it. -/
theorem putAt_eq {α : Type} : ∀ (ys xs : List α) (i : Nat), i + ys.length ≤ xs.length → putAt xs i ys = xs.take i ++ ys ++ xs.drop (i + ys.length)
  | [], xs, i, h => by simp [putAt]
  | y :: ys, xs, i, h => by
    simp only [List.length_cons] at h
    simp only [putAt]
    rw [putAt_eq ys _ (i + 1) (by rw [List.length_set]; omega)]
    have e1 : (xs.set i y).take (i + 1) = xs.take i ++ [y] := by
      rw [List.take_add_one, List.take_set_of_le (Nat.le_refl i), List.getElem?_set_self (by omega)]
      rfl
    have e2 : (xs.set i y).drop (i + 1 + ys.length) = xs.drop (i + (y :: ys).length) := by
      rw [List.drop_set_of_lt (by omega)]
      congr 1
      simp
      omega
    rw [e1, e2]
    simp

theorem upds_ne {α : Type} : ∀ (l : List (Nat × α)) (f : Nat → α) (k : Nat), memN k (l.map (·.1)) = false → upds f l k = f k
  | [], _, _, _ => rfl
  | (k', v) :: l, f, k, h => by
    simp only [List.map_cons, memN, Bool.or_eq_false_iff] at h
    simp only [upds]
    rw [upds_ne l _ k h.2, upd_ne _ _ (fun e => by rw [e] at h; simp at h)]

/-! ### A row is written -/
/-- The cells of a row change: the row is as long as it was. -/
theorem Inv.rewrite (h : Inv u fx V w Im ob) {k : Nat} {e : TypeId} {τ : Ty} {xs ys : List (u.D τ)} (ho : ob k = .row e τ xs) {g cap : Nat} {cur : Array Value} (hV : V k = .slice (some ⟨g, 0, none⟩) xs.length (cap + 1)) (hg : w.heap[g]? = some (.cells cur e (0, 0)))
    (cur' : Array Value) (hs : cur'.size = cur.size) (hl : ys.length = xs.length) (h1 : xs.length ≤ cap + 1) (h2 : cap + 1 ≤ maxLen) (h3 : cur.size = (cap + 1) * sz u τ) (hr : R2 (fun y c => CR u w Im y c) (cur'.toList.take (ys.length * sz u τ)) (ys.flatMap (flat u τ))) :
    Step u fx V w Im ob V (w.setRow g cur') Im (M.upd ob k (.row e τ ys)) := by
  have hp : plc (ob k) (V k) = some (g, none) := by rw [ho, hV]; rfl
  have hIm := h.hr.notIm k _ hp
  have hOwn := h.fr.ownIn k _ hp
  have hoth : ∀ b, b ≠ g → (w.setRow g cur').heap[b]? = w.heap[b]? := fun b hb => setRow_other w g b cur' hb
  have := h.upd k (.row e τ ys) (V k) (w.setRow g cur') Im (fun _ => rfl) (by simp) rfl rfl rfl (by simp) (fun _ h => h)
    (fun b' hb' => hoth b' (fun e => hIm (show Im g from e ▸ hb')))
    (fun k' p hk' hp' => .of_block (hoth _ (fun e => h.hr.disj k' k _ _ hk' hp' hp ⟨e, .inr (.inl rfl)⟩)))
    (fun E => .inr ⟨g, cap, cur', by rw [hV, hl], setRow_heap w g cur cur' e (0, 0) hg, by omega, h2, by rw [hs, h3], hr.mono fun _ _ => CR.ext E⟩)
    (fun p hp' => by
      have hp'' : plc (ob k) (V k) = some p := by rw [hp]; rw [hV] at hp'; exact hp'
      refine ⟨fun k' q hk' hq hcl => h.hr.disj k k' p q (fun e => hk' e.symm) hp'' hq hcl, h.hr.notIm k p hp'', by simpa using h.hr.lt k p hp'', h.fr.ownIn k p hp''⟩)
    (fun b' hb' => .inl hb')
    (fun b' hb' hO => hoth b' (fun e => by
      subst e
      rcases hOwn with hOwn | hOwn
      · exact hO _ hOwn
      · simp only at hOwn; omega))
    (fun b' o' hb' h1 h2 => by
      have : b' ≠ g := by
        rintro rfl
        rcases hOwn with hOwn | hOwn
        · exact h1 hOwn
        · simp only at hOwn; omega
      exact ⟨World.cell?_of_block (w := w) (a := ⟨b', o', none⟩) (hoth _ this), World.frozen?_of_block (w := w) (a := ⟨b', o', none⟩) (hoth _ this)⟩)
  rwa [upd_self] at this

theorem R2_CR_one {cs : List u.C} {vs : List Value} (h : R2 (fun y c => CR u w Im y c) vs cs) : ∀ y ∈ vs, y.oneCell' = true := by
  intro y hy
  obtain ⟨i, hi, e⟩ := List.getElem_of_mem hy
  obtain ⟨c, _, hc⟩ := h.get i y (by rw [List.getElem?_eq_getElem hi, e])
  exact CR.one hc

theorem flats_set (u : Uni) (τ : Ty) : ∀ (xs : List (u.D τ)) (i : Nat) (x : u.D τ), i < xs.length → (xs.set i x).flatMap (flat u τ) = putAt (xs.flatMap (flat u τ)) (i * sz u τ) (flat u τ x) := by
  intro xs i x hi
  have hl : i * sz u τ + (flat u τ x).length ≤ (xs.flatMap (flat u τ)).length := by
    rw [flat_length, flats_length]
    have := Nat.mul_le_mul_right (sz u τ) (show i + 1 ≤ xs.length from hi)
    rw [Nat.succ_mul] at this
    exact this
  rw [putAt_eq _ _ _ hl, flat_length, ← flats_take, show i * sz u τ + sz u τ = (i + 1) * sz u τ by rw [Nat.succ_mul], ← flats_drop]
  have : xs.set i x = xs.take i ++ x :: xs.drop (i + 1) := List.set_eq_take_append_cons_drop.trans (by rw [if_pos hi])
  rw [this, List.flatMap_append, List.flatMap_cons, List.append_assoc]

theorem run_storeCells_row (g o : Nat) (t : TypeId) (vs : List Value) (cur : Array Value) (w : World) (hg : w.heap[g]? = some (.cells cur t (0, 0))) (hl : o + vs.length ≤ cur.size) (h1 : ∀ y ∈ vs, y.oneCell' = true) :
    (storeCells ⟨g, o, none⟩ vs).run P w = .ok () (w.setRow g (putAt cur.toList o vs).toArray) := by
  have := run_storeCells_at P g o t vs 0 cur w hg (by simpa using hl) h1
  rw [this]
  congr 2
  rw [putAt_eq _ _ _ (by simpa using hl)]
  simp

theorem putAt_get {α : Type} (xs ys : List α) (i j : Nat) (h : i + ys.length ≤ xs.length) : (putAt xs i ys)[j]? = if i ≤ j ∧ j < i + ys.length then ys[j - i]? else xs[j]? := by
  rw [putAt_eq _ _ _ h, List.append_assoc]
  by_cases h1 : j < i
  · rw [if_neg (by omega), List.getElem?_append_left (by rw [List.length_take]; omega), List.getElem?_take, if_pos h1]
  · rw [List.getElem?_append_right (by rw [List.length_take]; omega), List.length_take, Nat.min_eq_left (by omega)]
    by_cases h2 : j < i + ys.length
    · rw [if_pos ⟨by omega, h2⟩, List.getElem?_append_left (by omega)]
    · rw [if_neg (by omega), List.getElem?_append_right (by omega), List.getElem?_drop]
      congr 1
      omega
theorem putAt_in {α : Type} (xs ys : List α) (a n o : Nat) (h1 : o + ys.length ≤ n) (h2 : a + n ≤ xs.length) : putAt xs a (putAt ((xs.drop a).take n) o ys) = putAt xs (a + o) ys := by
  have hl : ((xs.drop a).take n).length = n := by rw [List.length_take, List.length_drop]; omega
  have hp : (putAt ((xs.drop a).take n) o ys).length = n := by rw [putAt_length, hl]
  apply List.ext_getElem?
  intro j
  rw [putAt_get xs (putAt ((xs.drop a).take n) o ys) a j (by rw [hp]; exact h2), putAt_get xs ys (a + o) j (by omega), hp]
  by_cases c1 : a ≤ j ∧ j < a + n
  · rw [if_pos c1, putAt_get _ _ _ _ (by rw [hl]; exact h1)]
    by_cases c2 : o ≤ j - a ∧ j - a < o + ys.length
    · rw [if_pos c2, if_pos (by omega)]
      congr 1
      omega
    · rw [if_neg c2, if_neg (by omega), List.getElem?_take, if_pos (by omega), List.getElem?_drop]
      congr 1
      omega
  · rw [if_neg c1, if_neg (by omega)]

theorem take_putAt {α : Type} (xs ys : List α) (i n : Nat) (h : i + ys.length ≤ n) (hn : n ≤ xs.length) : (putAt xs i ys).take n = putAt (xs.take n) i ys := by
  apply List.ext_getElem?
  intro j
  rw [List.getElem?_take, putAt_get _ _ _ _ (by omega), putAt_get _ _ _ _ (by rw [List.length_take]; omega), List.getElem?_take]
  by_cases c : j < n
  · rw [if_pos c, if_pos c]
  · rw [if_neg c, if_neg c, if_neg (by omega)]

theorem stOp_ok {T : TypeId → Option (TI u)} (hT : TOk P T) (h : Inv u fx V w Im ob) {t : TypeId} {a : AV u} {av : Value} (ha : AR u V (Lv u ob) w Im a av) {x : SV u} {v : Value} (hx : SR u V (Lv u ob) w Im x v)
    {kk : List (Nat × Ob u) → Option R} {z : R} (hk : stOp ob (T t) a x kk = some z) :
    ∃ us w' Im', (Instr.storeAt t av v).run P w = .ok () w' ∧ kk us = some z ∧ Step u fx V w Im ob V w' Im' (upds ob us) := by
  unfold stOp at hk
  split at hk
  · rename_i ti ht
    have hti := hT _ _ ht
    cases hb : (Nat.beq x.cells.length ti.size && noDead x.cells) with
    | false => rw [hb] at hk; cases hk
    | true =>
      rw [hb, cond_true] at hk
      rw [Bool.and_eq_true] at hb
      have hlen := Nat.eq_of_beq_eq_true hb.1
      have hnd := noDead_ne hb.2
      have hR : R2 (AR u V (Lv u ob) w Im) x.cells v.cells.toList := hx.cells (fun a e => by
        subst e
        exact AR.one hx (hnd a (by simp [SV.cells])))
      have hone : ∀ y ∈ v.cells.toList, y.oneCell' = true := by
        intro y hy
        obtain ⟨i, hi, e⟩ := List.getElem_of_mem hy
        obtain ⟨c, hc, har⟩ := hR.get' i y (by rw [List.getElem?_eq_getElem hi, e])
        exact AR.one har (hnd c (List.mem_of_getElem? hc))
      have hvl : v.cells.size = ti.size := by rw [← Array.length_toList, ← hR.length]; exact hlen
      split at hk
      · rename_i k n
        cases hb2 : (Nat.ble ti.size n && isCells ob k ti.size) with
        | false => rw [hb2] at hk; cases hk
        | true =>
          rw [hb2, cond_true] at hk
          rw [Bool.and_eq_true] at hb2
          have hle := Nat.le_of_ble_eq_true hb2.1
          have hcs := isCells_at hb2.2
          obtain ⟨b, o, rfl, hj⟩ := ha
          have hst := h.sets k b o hR (fun j hjn => (hj j (by omega)).2) (fun j hjn => hcs j (by omega))
          refine ⟨_, _, _, run_storeAt_cells hti b o v hvl (fun j hjn => ?_) hone, hk, hst⟩
          obtain ⟨a0, h0⟩ := hcs j hjn
          have hob := h.hr.obs (k + j)
          rw [h0] at hob
          obtain ⟨ad, y, e, _, hc, hf, _⟩ := hob
          have e2 := (hj j (by omega)).2
          rw [e] at e2
          cases e2
          exact ⟨by rw [hc]; rfl, hf⟩
      · rename_i k s i o
        split at hk
        · rename_i e τ xs ho
          cases hb2 : Nat.beq s (sz u τ) with
          | false => rw [hb2] at hk; cases hk
          | true =>
            rw [hb2, cond_true] at hk
            have es := Nat.eq_of_beq_eq_true hb2
            subst es
            obtain ⟨y0, _, hy0, hk⟩ := gi_some hk
            have hy0 : xs[i]? = some y0 := by simpa using hy0
            cases hb3 : Nat.ble (o + ti.size) (sz u τ) with
            | false => rw [hb3] at hk; cases hk
            | true =>
              rw [hb3, cond_true] at hk
              have hle := Nat.le_of_ble_eq_true hb3
              split at hk
              · rename_i y vs hel
                cases hmem : memN k (vs.map (·.1)) with
                | true => rw [hmem] at hk; cases hk
                | false =>
                  rw [hmem, cond_false] at hk
                  obtain ⟨hl, g, n, c, hV, rfl⟩ := ha
                  obtain ⟨g', cap, cur, hV', hg, g1, g2, g3, g4⟩ := row_slice h.hr ho (by rintro rfl; simp at hy0)
                  rw [hV] at hV'
                  cases hV'
                  have hlt : i < xs.length := (List.getElem?_eq_some_iff.1 hy0).1
                  have hmul : i * sz u τ + sz u τ ≤ xs.length * sz u τ := by
                    have := Nat.mul_le_mul_right (sz u τ) (show i + 1 ≤ xs.length from hlt)
                    rwa [Nat.succ_mul] at this
                  have hmul2 : xs.length * sz u τ ≤ cur.size := by rw [g3]; exact Nat.mul_le_mul_right _ g1
                  -- the element's cells as they were
                  have hel0 : R2 (fun y c => CR u w Im y c) (((cur.toList.take (xs.length * sz u τ)).drop (i * sz u τ)).take (sz u τ)) (flat u τ y0) := by
                    rw [← flats_at u τ xs i y0 hy0]
                    exact (g4.drop _).take _
                  have hAR := putAt_R2 o (flat_AR (V := V) (L := Lv u ob) hel0) hR
                  obtain ⟨Im1, s1, hc1⟩ := toElem_ok h hAR hel
                  have ho1 : upds ob vs k = .row e τ xs := by rw [upds_ne _ _ _ hmem]; exact ho
                  have hvl2 : v.cells.toList.length = ti.size := by rw [Array.length_toList]; exact hvl
                  have hrun : (Instr.storeAt t (.pointer (some ⟨g, i * sz u τ + o, none⟩)) v).run P w = .ok () (w.setRow g (putAt cur.toList (i * sz u τ + o) v.cells.toList).toArray) := by
                    obtain ⟨ii, zz, q1, q2, _⟩ := hti.inf
                    have := run_storeCells_row (P := P) g (i * sz u τ + o) e v.cells.toList cur w hg (by rw [hvl2]; omega) hone
                    simp [Instr.storeAt, Instr.sureAddr, storeVar, run_sizeOf q1, q2, hvl, this]
                  have s2 := s1.inv.rewrite (ys := xs.set i y) ho1 hV (by have := s1.ext; exact hg) ((putAt cur.toList (i * sz u τ + o) v.cells.toList).toArray) (by simp [putAt_length]) (by simp) g1 g2 g3 (by
                    have hlen' : (xs.set i y).length = xs.length := by simp
                    rw [hlen', flats_set u τ xs i y hlt]
                    show R2 _ ((putAt cur.toList (i * sz u τ + o) v.cells.toList).take (xs.length * sz u τ)) _
                    rw [take_putAt _ _ _ _ (by rw [hvl2]; omega) (by simpa using hmul2)]
                    rw [← putAt_in (cur.toList.take (xs.length * sz u τ)) v.cells.toList (i * sz u τ) (sz u τ) o (by rw [hvl2]; exact hle) (by rw [List.length_take, Array.length_toList (xs := cur)]; omega)]
                    exact putAt_R2 _ (g4.mono fun _ _ => CR.ext s1.ext) hc1)
                  have s3 := s1.trans s2
                  refine ⟨_, _, Im1, hrun, hk, ?_⟩
                  rw [upds_app]
                  exact s3
              · cases hk
        · cases hk
      · cases hk
  · cases hk
end
end Go.Proofs.YtmppaodhihnejaaGreat.M
