/- append, clear. -/
import Derived.Test.YtmppaodhihnejaaGreatOpsF
set_option linter.unusedVariables false
namespace Go.Proofs.YtmppaodhihnejaaGreat.M
open Go

section
variable {P : Program} {u : Uni} {R : Type} {fx : Fix} {V : Nat → Value} {w : World} {Im : Nat → Prop} {ob : Nat → Ob u}

theorem Reads.src {τ : Ty} {xs : List (u.D τ)} {v : Value} (h : Reads u w Im τ xs v) : ∃ news, Src P w (sz u τ) v xs.length news ∧ R2 (fun y k => CR u w Im y k) news (xs.flatMap (flat u τ)) := by
  obtain ⟨A, c, vs, rfl, h1, h2, h3, h4⟩ := h
  have hl : vs.length = xs.length * sz u τ := by rw [h3.length, flats_length]
  refine ⟨vs, ⟨fun w' => rfl, ?_, ?_, hl⟩, h3⟩
  · cases A with
    | none =>
      have : vs = [] := by
        cases vs with
        | nil => rfl
        | cons a b => obtain ⟨a, e, _⟩ := h4 (by simp); cases e
      subst this
      rfl
    | some a =>
      refine run_firstCells_some (P := P) w (sz u τ) xs.length a xs.length c vs hl fun j v hv => ?_
      obtain ⟨a', e, hc⟩ := h4 (by rintro rfl; simp at hv)
      cases e
      exact hc j v hv
  · cases A with
    | none =>
      have : vs = [] := by
        cases vs with
        | nil => rfl
        | cons a b => obtain ⟨a, e, _⟩ := h4 (by simp); cases e
      subst this
      rfl
    | some a =>
      refine run_firstCells_some (P := P) w.drew (sz u τ) xs.length a xs.length c vs hl fun j v hv => ?_
      obtain ⟨a', e, hc⟩ := h4 (by rintro rfl; simp at hv)
      cases e
      rw [World.cell?_drew]
      exact hc j v hv

theorem str_src (s : List UInt8) : ∃ news, Src P w 1 (.string ⟨⟨s⟩⟩) s.length news ∧ R2 (fun y k => CR u w Im y k) news ((numsOf s).flatMap (fun n => [(⟨.int .u8, n⟩ : u.C)])) := by
  refine ⟨s.map fun b => .int .u8 b.toNat, ⟨fun w' => rfl, ?_, ?_, by simp⟩, ?_⟩
  · exact Lib.run_firstCells_string (P := P) w 1 ⟨⟨s⟩⟩
  · exact Lib.run_firstCells_string (P := P) w.drew 1 ⟨⟨s⟩⟩
  · induction s with
    | nil => trivial
    | cons b s ih => exact ⟨.int _ _, ih⟩

/-- A row's block passes on to another row. -/
theorem Inv.moveRow (h : Inv u fx V w Im ob) {k dk : Nat} (hk : k ≠ dk) {e : TypeId} {τ : Ty} {xs ys : List (u.D τ)} (ho : ob k = .row e τ xs) (hf : ob dk = .fresh) {g n c : Nat} (hV : V k = .slice (some ⟨g, 0, none⟩) n (c + 1)) {w' : World}
    (os : w'.os = w.os) (tape : w'.tape = w.tape) (output : w'.output = w.output) (sz' : w'.heap.size = w.heap.size) (blk : ∀ b, b ≠ g → w'.heap[b]? = w.heap[b]?)
    {v : Value} (hv : ownB v = some g) (hrow : rowR u w' Im e τ ys v) :
    Step u fx V w Im ob (M.upd V dk v) w' Im (M.upd (M.upd ob k .dead) dk (.row e τ ys)) := by
  have hp : plc (ob k) (V k) = some (g, none) := by rw [ho, hV]; rfl
  have hIm := h.hr.notIm k _ hp
  have hOwn := h.fr.ownIn k _ hp
  have hlt := h.hr.lt k _ hp
  have s1 := h.kill k
  have hoth : ∀ k' p, plc (M.upd ob k .dead k') (V k') = some p → p.1 ≠ g := by
    intro k' p hp' e
    by_cases ek : k' = k
    · subst ek; rw [upd_same] at hp'; simp [plc] at hp'
    · rw [upd_ne _ _ ek] at hp'
      exact h.hr.disj k' k p _ ek hp' hp ⟨e, .inr (.inl rfl)⟩
  refine s1.trans (s1.inv.upd dk (.row e τ ys) v w' Im (fun hl => absurd (show M.upd ob k .dead dk = .fresh by rw [upd_ne _ _ (fun e => hk e.symm)]; exact hf) (Lv_iff.1 hl)) (by simp) os tape output (by omega) (fun _ h => h)
    (fun b hb => blk b (fun e => hIm (show Im g from e ▸ hb)))
    (fun k' p _ hp' => .of_block (blk _ (hoth k' p hp')))
    (fun E => ?_)
    (fun p hp' => ?_) (fun b hb => .inl hb)
    (fun b hb hO => blk b (fun e => by
      subst e
      rcases hOwn with hOwn | hOwn
      · exact hO _ hOwn
      · simp only at hOwn; omega))
    (fun b o hb h1 h2 => by
      have : b ≠ g := by
        rintro rfl
        rcases hOwn with hOwn | hOwn
        · exact h1 hOwn
        · simp only at hOwn; omega
      exact ⟨World.cell?_of_block (w := w) (a := ⟨b, o, none⟩) (blk _ this), World.frozen?_of_block (w := w) (a := ⟨b, o, none⟩) (blk _ this)⟩))
  · rcases hrow with h0 | ⟨g, cap, cur, h1, h2, h3, h4, h5, h6⟩
    · exact .inl h0
    · exact .inr ⟨g, cap, cur, h1, h2, h3, h4, h5, h6.mono fun _ _ hc => CR.mono (w := w') (fun b hb => hb) (fun b hb => rfl) hc⟩
  · simp only [plc, hv, Option.map_some, Option.some.injEq] at hp'
    subst hp'
    refine ⟨fun k' p' _ hp' hc => hoth k' p' hp' hc.1.symm, hIm, by rw [sz']; exact hlt, hOwn⟩

theorem flats_app (u : Uni) (τ : Ty) (xs ys : List (u.D τ)) : (xs ++ ys).flatMap (flat u τ) = xs.flatMap (flat u τ) ++ ys.flatMap (flat u τ) := List.flatMap_append
theorem ti_den {ti : TI u} {t : TypeId} (hti : TIok P t ti) {τ : Ty} (hd : ti.den = some τ) : ti.size = sz u τ := (hti.den τ hd).symm

/-- The new block of an append that had to grow. -/
theorem grown_row (h : Inv u fx V w Im ob) {e : TypeId} {τ : Ty} {xs ys : List (u.D τ)} {olds news : List Value} (ho : R2 (fun y k => CR u w Im y k) olds (xs.flatMap (flat u τ))) (hn : R2 (fun y k => CR u w Im y k) news (ys.flatMap (flat u τ)))
    {z : Value} (hz : z.cells.size = sz u τ) (old : Nat) (hpos : 0 < xs.length + ys.length) (hroom : xs.length + ys.length ≤ 140737488355328) :
    Step u fx V w Im ob V (w.drew.alloc (.cells (olds.toArray ++ (news.toArray ++ Builtin.zeroCells z.cells (grownCap w (xs.length + ys.length) old e - (xs.length + ys.length)))) e)) Im ob ∧
    rowR u (w.drew.alloc (.cells (olds.toArray ++ (news.toArray ++ Builtin.zeroCells z.cells (grownCap w (xs.length + ys.length) old e - (xs.length + ys.length)))) e)) Im e τ (xs ++ ys)
      (.slice (some ⟨w.heap.size, 0, none⟩) (xs.length + ys.length) (grownCap w (xs.length + ys.length) old e)) ∧
    (∀ g, ownB (.slice (some ⟨w.heap.size, 0, none⟩) (xs.length + ys.length) (grownCap w (xs.length + ys.length) old e)) = some g → w.heap.size ≤ g ∧ g < (w.drew.alloc (.cells (olds.toArray ++ (news.toArray ++ Builtin.zeroCells z.cells (grownCap w (xs.length + ys.length) old e - (xs.length + ys.length)))) e)).heap.size) := by
  have hge := grownCap_ge w (xs.length + ys.length) old e
  have hcm := grownCap_le_maxLen w (xs.length + ys.length) old e (by unfold maxLen; omega)
  have s := h.drew.trans (h.drew.inv.alloc (.cells (olds.toArray ++ (news.toArray ++ Builtin.zeroCells z.cells (grownCap w (xs.length + ys.length) old e - (xs.length + ys.length)))) e))
  have hlo : olds.length = xs.length * sz u τ := by rw [ho.length, flats_length]
  have hln : news.length = ys.length * sz u τ := by rw [hn.length, flats_length]
  obtain ⟨c, hc⟩ : ∃ c, grownCap w (xs.length + ys.length) old e = c + 1 := ⟨grownCap w (xs.length + ys.length) old e - 1, by omega⟩
  refine ⟨s, .inr ⟨w.heap.size, c, _, by rw [List.length_append, hc], heap_alloc_new w.drew _, by rw [List.length_append]; omega, by omega, ?_, ?_⟩, fun g hg => ?_⟩
  · simp only [Array.size_append, List.size_toArray, size_zeroCells, hz, hlo, hln]
    rw [← Nat.add_mul, ← Nat.add_mul, ← hc]
    congr 1
    omega
  · rw [flats_app]
    have e1 : ((olds.toArray ++ (news.toArray ++ Builtin.zeroCells z.cells (grownCap w (xs.length + ys.length) old e - (xs.length + ys.length)))).toList.take ((xs ++ ys).length * sz u τ)) = olds ++ news := by
      rw [Array.toList_append, Array.toList_append, ← List.append_assoc]
      have : (xs ++ ys).length * sz u τ = (olds ++ news).length := by rw [List.length_append, List.length_append, hlo, hln, Nat.add_mul]
      rw [this]
      exact List.take_left
    rw [e1]
    exact (ho.app hn).mono fun _ _ => CR.ext s.ext
  · rw [hc] at hg
    simp [ownB] at hg
    subst hg
    simp

theorem putAt_flats (u : Uni) (τ : Ty) : ∀ (ys xs : List (u.D τ)) (i : Nat), i + ys.length ≤ xs.length → (putAt xs i ys).flatMap (flat u τ) = putAt (xs.flatMap (flat u τ)) (i * sz u τ) (ys.flatMap (flat u τ)) := by
  intro ys xs i h
  have hl : i * sz u τ + (ys.flatMap (flat u τ)).length ≤ (xs.flatMap (flat u τ)).length := by
    rw [flats_length, flats_length, ← Nat.add_mul]
    exact Nat.mul_le_mul_right _ h
  rw [putAt_eq _ _ _ h, putAt_eq _ _ _ hl, flats_app, flats_app, flats_take, flats_drop, flats_length, Nat.add_mul]

theorem newsOf_ok {T : TypeId → Option (TI u)} (hT : TOk P T) {tx : TypeId} (h : Inv u fx V w Im ob) {τ : Ty} {x : AV u} {xv : Value} (hx : AR u V (Lv u ob) w Im x xv) {ys : List (u.D τ)} (hn : newsOf (T tx) ob τ x = some ys) :
    ∃ news dx, P.underlying tx = some dx ∧ ((∃ e', dx = .slice e') ∨ dx = .string) ∧ Src P w (sz u τ) xv ys.length news ∧ R2 (fun y k => CR u w Im y k) news (ys.flatMap (flat u τ)) := by
  unfold newsOf at hn
  split at hn
  · rename_i b1 b2 b3 b4 b5 ht
    unfold strNews at hn
    split at hn
    · rename_i s
      obtain ⟨e, rfl⟩ := asL_eq hn
      subst e
      have hv := CR.str_inv (show CR u w Im xv ⟨.str, s⟩ from hx)
      subst hv
      obtain ⟨news, h1, h2⟩ := str_src (P := P) (u := u) (w := w) (Im := Im) s
      refine ⟨news, _, (hT _ _ ht).kd, .inr rfl, ?_, h2⟩
      have : (numsOf s).length = List.length s := by unfold numsOf; exact List.length_map _
      show Src P w 1 _ (numsOf s).length news
      rw [this]
      exact h1
    · cases hn
  · rename_i e b1 b2 b3 b4 b5 ht
    obtain ⟨news, h1, h2⟩ := (toL_reads h.hr hx hn).src (P := P)
    exact ⟨news, _, (hT _ _ ht).kd, .inl ⟨_, rfl⟩, h1, h2⟩
  · cases hn

/-- A block that is new comes to stand still. -/
theorem Inv.addIm (h : Inv u fx V w Im ob) (g : Nat) (hg : fx.w.heap.size ≤ g) (hlt : g < w.heap.size) (hne : ∀ k p, plc (ob k) (V k) = some p → p.1 ≠ g) : Step u fx V w Im ob V w (fun b => Im b ∨ b = g) ob := by
  have E : Ext V (Lv u ob) w Im V (Lv u ob) w (fun b => Im b ∨ b = g) := ⟨fun _ h => ⟨h, rfl⟩, fun _ h => .inl h, fun _ _ => rfl⟩
  refine ⟨E, ⟨fun k => (h.hr.obs k).ext E fun _ _ => .refl _ _, h.hr.disj, fun k p hp hi => ?_, h.hr.lt, fun b hb => ?_⟩, ?_⟩
  · rcases hi with hi | hi
    · exact h.hr.notIm k p hp hi
    · exact hne k p hp hi
  · rcases hb with hb | rfl
    · exact h.hr.imLt b hb
    · exact hlt
  · have f := h.fr
    refine ⟨f.os, f.tape, f.output, f.size, f.block, f.cell, fun b hb => .inl (f.imUp b hb), fun b hb => ?_, f.ownIn, f.keys⟩
    rcases hb with hb | rfl
    · exact f.imIn b hb
    · exact .inr (.inr hg)

set_option maxHeartbeats 2000000 in
theorem apOp_ok {T : TypeId → Option (TI u)} (hT : TOk P T) (h : Inv u fx V w Im ob) {t tx ty e : TypeId} (ht : P.underlying t = some (.slice e)) {a x : AV u} {av xv : Value} (ha : AR u V (Lv u ob) w Im a av) (hx : AR u V (Lv u ob) w Im x xv)
    {dk : Nat} {kk : AV u → List (Nat × Ob u) → Option R} {z : R} (hk : apOp ob dk e (T e) (T tx) a x kk = some z) :
    ∃ val r us V' w' Im', (Builtin.append_ #[t, tx] ty #[av, xv]).run P w = .ok val w' ∧ kk r us = some z ∧ Step u fx V w Im ob V' w' Im' (upds ob us) ∧ AR u V' (Lv u (upds ob us)) w' Im' r val := by
  unfold apOp at hk
  split at hk
  · rename_i ti hte
    have hti := hT _ _ hte
    split at hk
    · rename_i τ hd
      have hts := ti_den hti hd
      obtain ⟨i, zv, i1, i2, i3, i4, i5⟩ := zero_AR hT hte V (Lv u ob) w Im
      have hzl : zv.cells.size = sz u τ := by rw [← Array.length_toList, ← i5.length, hti.len, hts]
      have his : i.size = sz u τ := i2.trans hts
      have hbp : 0 < i.bytes := by rw [i3]; exact hti.bpos
      split at hk
      · rename_i ys hn
        obtain ⟨news, dx, hux, hdx, hsrc, hnews⟩ := newsOf_ok hT h hx hn
        have hsrc' : Src P w i.size xv ys.length news := by rw [his]; exact hsrc
        have hlt0 : ∀ {n : Nat}, n * ti.bytes ≤ roomOf → n ≤ 140737488355328 := fun {n} hr => Nat.le_trans (Nat.le_mul_of_pos_right _ hti.bpos) hr
        split at hk
        · -- a row of the call's own
          rename_i k
          split at hk
          · rename_i e' τ' xs0 ho
            cases hee : Nat.beq e e' with
            | false => rw [hee] at hk; cases hk
            | true =>
              rw [hee, cond_true] at hk
              have := Nat.eq_of_beq_eq_true hee
              subst this
              split at hk
              · rename_i xs has
                obtain ⟨eτ, rfl⟩ := asL_eq has
                subst eτ
                split at hk
                · rename_i hf
                  replace hk := ck_some hk
                  obtain ⟨hroom, hk⟩ := hk
                  have hroom := of_decide_eq_true hroom
                  have hav := ha.2.1
                  have hkd : k ≠ dk := by rintro rfl; rw [ho] at hf; cases hf
                  have hob := h.hr.obs k
                  rw [ho] at hob
                  have fin : ∀ (val : Value) (V' : Nat → Value) (w' : World), (Builtin.append_ #[t, tx] ty #[av, xv]).run P w = .ok val w' → Step u fx V w Im ob V' w' Im (M.upd (M.upd ob k .dead) dk (.row e τ' (xs0 ++ ys))) → V' dk = val → val.oneCell' = true →
                      ∃ val r us V' w' Im', (Builtin.append_ #[t, tx] ty #[av, xv]).run P w = .ok val w' ∧ kk r us = some z ∧ Step u fx V w Im ob V' w' Im' (upds ob us) ∧ AR u V' (Lv u (upds ob us)) w' Im' r val :=
                    fun val V' w' h1 h2 h3 h4 => ⟨val, _, _, V', w', Im, h1, hk, h2, Lv_iff.2 (by show M.upd _ dk _ dk ≠ _; rw [upd_same]; simp), h3.symm, h4⟩
                  have grow : ∀ (A : Option Addr) (c : Nat) (olds : List Value), av = .slice A xs0.length c → c < xs0.length + ys.length → R2 (fun y k => CR u w Im y k) olds (xs0.flatMap (flat u τ')) → (∀ a, A = some a → ∀ (j : Nat) v, olds[j]? = some v → w.cell? (a.add j) = some v) → (A = none → xs0.length = 0) →
                      ∃ val r us V' w' Im', (Builtin.append_ #[t, tx] ty #[av, xv]).run P w = .ok val w' ∧ kk r us = some z ∧ Step u fx V w Im ob V' w' Im' (upds ob us) ∧ AR u V' (Lv u (upds ob us)) w' Im' r val := by
                    intro A c olds e1 e2 e3 e4 e5
                    subst e1
                    have hrun := run_app_grow (ty := ty) ht hux hdx i1 i4 hbp hsrc' A xs0.length c e2 (by rw [i3]; exact hroom) (olds := olds) (by rw [e3.length, flats_length, his]) e4 e5
                    have s1 := h.kill k
                    obtain ⟨g1, g2, g3⟩ := grown_row s1.inv (e := e) e3 hnews hzl c (by omega) (hlt0 hroom)
                    have s2 := s1.inv.newRow (dk := dk) (by rw [upd_ne _ _ (fun e => hkd e.symm)]; exact hf) g1 g2 g3
                    exact fin _ _ _ hrun (s1.trans s2) (upd_same _ _ _) rfl
                  rcases hob with ⟨hnil, A, hV⟩ | ⟨g, cap, cur, hV, hg, q1, q2, q3, q4⟩
                  · subst hnil
                    rw [hV] at hav
                    subst hav
                    by_cases hy : ys.length = 0
                    · have hys : ys = [] := List.eq_nil_of_length_eq_zero hy
                      subst hys
                      have hnl : news = [] := List.eq_nil_of_length_eq_zero (by rw [hsrc.size]; simp)
                      subst hnl
                      have hrun := run_app_stay (ty := ty) ht hux hdx i1 hsrc' A 0 0 (Nat.le_refl _) (w' := w) (by cases A <;> rfl)
                      have s1 := h.kill k
                      have s2 := s1.inv.here dk (.row e τ' []) (.slice A 0 0) (fun hl => absurd (show M.upd ob k .dead dk = .fresh by rw [upd_ne _ _ (fun e => hkd e.symm)]; exact hf) (Lv_iff.1 hl)) (by simp) (fun E => .inl ⟨rfl, A, rfl⟩)
                        (fun p hp => by cases A <;> simp [plc, ownB] at hp)
                      exact fin _ _ _ hrun (s1.trans s2) (upd_same _ _ _) rfl
                    · exact grow A 0 [] rfl (by simp; omega) trivial (fun a _ j v hv => by simp at hv) (fun _ => rfl)
                  · rw [hV] at hav
                    have hcl : (cur.toList.take (xs0.length * sz u τ')).length = xs0.length * sz u τ' := by rw [q4.length, flats_length]
                    by_cases hfit : xs0.length + ys.length ≤ cap + 1
                    · subst hav
                      have hmul : (xs0.length + ys.length) * sz u τ' ≤ cur.size := by rw [q3]; exact Nat.mul_le_mul_right _ hfit
                      have hst := run_storeCells_row (P := P) g (xs0.length * sz u τ') e news cur w hg (by rw [hsrc.size, ← Nat.add_mul]; exact hmul) (R2_CR_one hnews)
                      have hrun := run_app_stay (ty := ty) ht hux hdx i1 hsrc' (some ⟨g, 0, none⟩) xs0.length (cap + 1) hfit (by
                        show (storeCells ((⟨g, 0, none⟩ : Addr).add (xs0.length * i.size)) news).run P w = _
                        rw [Addr.add_lit, Nat.zero_add, his]
                        exact hst)
                      have s := h.moveRow (e := e) (ys := xs0 ++ ys) hkd ho hf hV (w' := w.setRow g (putAt cur.toList (xs0.length * sz u τ') news).toArray) rfl rfl rfl (by simp) (fun b hb => setRow_other w g b _ hb)
                        (v := .slice (some ⟨g, 0, none⟩) (xs0.length + ys.length) (cap + 1)) rfl
                        (.inr ⟨g, cap, _, by rw [List.length_append], setRow_heap w g cur _ e (0, 0) hg, by rw [List.length_append]; exact hfit, q2, by simp [putAt_length, q3], by
                          rw [flats_app, List.length_append]
                          show R2 _ ((putAt cur.toList (xs0.length * sz u τ') news).take _) _
                          have e2 : xs0.length * sz u τ' + news.length ≤ cur.toList.length := by rw [hsrc.size, ← Nat.add_mul, Array.length_toList (xs := cur)]; exact hmul
                          rw [putAt_eq _ _ _ e2, List.append_assoc, ← List.append_assoc]
                          have e3 : (xs0.length + ys.length) * sz u τ' = (cur.toList.take (xs0.length * sz u τ') ++ news).length := by rw [List.length_append, hcl, hsrc.size, Nat.add_mul]
                          rw [e3, List.take_left]
                          refine (q4.app hnews).mono fun y c hc => CR.mono (w := w) (fun b hb => hb) (fun b hb => setRow_other w g b _ (fun e => ?_)) hc
                          have hp : plc (ob k) (V k) = some (g, none) := by rw [ho, hV]; rfl
                          exact h.hr.notIm k _ hp (show Im g from e ▸ hb)⟩)
                      exact fin _ _ _ hrun s (upd_same _ _ _) rfl
                    · exact grow _ (cap + 1) _ hav (by omega) q4 (fun a ea j v hv => by
                        cases ea
                        rw [Addr.add_lit, Nat.zero_add, cell_of_row w g j cur e (0, 0) hg]
                        rw [List.getElem?_take] at hv
                        split at hv
                        · simpa using hv
                        · cases hv) (fun e => by cases e)
                · cases hk
              · cases hk
          · cases hk
        · -- nothing, and no room
          split at hk
          · rename_i hf
            replace hk := ck_some hk
            obtain ⟨hroom, hk⟩ := hk
            have hroom := of_decide_eq_true hroom
            obtain ⟨A, rfl⟩ := ha
            by_cases hy : ys.length = 0
            · have hys : ys = [] := List.eq_nil_of_length_eq_zero hy
              subst hys
              have hnl : news = [] := List.eq_nil_of_length_eq_zero (by rw [hsrc.size]; simp)
              subst hnl
              have hrun := run_app_stay (ty := ty) ht hux hdx i1 hsrc' A 0 0 (Nat.le_refl _) (w' := w) (by cases A <;> rfl)
              have s2 := h.here dk (.row e τ []) (.slice A 0 0) (fun hl => absurd hf (Lv_iff.1 hl)) (by simp) (fun E => .inl ⟨rfl, A, rfl⟩)
                (fun p hp => by cases A <;> simp [plc, ownB] at hp)
              exact ⟨_, _, _, _, _, Im, hrun, hk, s2, Lv_iff.2 (by show M.upd _ dk _ dk ≠ _; rw [upd_same]; simp), (upd_same _ _ _).symm, rfl⟩
            · have hrun := run_app_grow (ty := ty) ht hux hdx i1 i4 hbp hsrc' A 0 0 (by omega) (by rw [i3, Nat.zero_add]; exact hroom) (olds := []) (by simp) (fun a _ j v hv => by simp at hv) (fun _ => rfl)
              obtain ⟨g1, g2, g3⟩ := grown_row h (e := e) (xs := []) (olds := []) trivial hnews hzl 0 (by rw [List.length_nil, Nat.zero_add]; exact Nat.pos_of_ne_zero hy) (by rw [List.length_nil, Nat.zero_add]; exact hlt0 hroom)
              have s2 := h.newRow (dk := dk) hf g1 g2 g3
              exact ⟨_, _, _, _, _, Im, hrun, hk, s2, Lv_iff.2 (by show M.upd _ dk _ dk ≠ _; rw [upd_same]; simp), (upd_same _ _ _).symm, rfl⟩
          · cases hk
        · -- a slice without room
          rename_i τ' xs0
          split at hk
          · rename_i xs has
            obtain ⟨eτ, rfl⟩ := asL_eq has
            subst eτ
            replace hk := ck_some hk
            obtain ⟨hroom, hk⟩ := hk
            replace hroom : (xs0.length + ys.length) * ti.bytes ≤ roomOf := of_decide_eq_true hroom
            replace hk : kk (.c ⟨.sl τ', (xs0 ++ ys : List (u.D τ'))⟩) [] = some z := hk
            obtain ⟨⟨A, rfl⟩, hc⟩ := ha
            obtain ⟨A', c, vs, eA, r1, r2, r3, r4⟩ := hc.reads
            cases eA
            by_cases hy : ys.length = 0
            · have hys : ys = [] := List.eq_nil_of_length_eq_zero hy
              subst hys
              have hnl : news = [] := List.eq_nil_of_length_eq_zero (by rw [hsrc.size]; simp)
              subst hnl
              have hrun := run_app_stay (ty := ty) ht hux hdx i1 hsrc' A xs0.length xs0.length (by simp) (w' := w) (by cases A <;> rfl)
              have e0 : (xs0 ++ [] : List (u.D τ')) = xs0 := List.append_nil _
              rw [e0] at hk
              exact ⟨_, _, _, V, w, Im, hrun, hk, .refl h, hc⟩
            · have hrun := run_app_grow (ty := ty) ht hux hdx i1 i4 hbp hsrc' A xs0.length xs0.length (by omega) (by rw [i3]; exact hroom) (olds := vs) (by rw [r3.length, flats_length, his]) (fun a ea j v hv => by
                obtain ⟨a', e', hcc⟩ := r4 (by rintro rfl; simp at hv)
                rw [ea] at e'
                cases e'
                exact hcc j v hv) (fun e => by
                cases hx0 : xs0 with
                | nil => rfl
                | cons q qs =>
                  have hne : vs ≠ [] := by
                    intro hv0
                    have hl := r3.length
                    rw [flats_length, hx0, hv0, List.length_cons, Nat.add_mul, Nat.one_mul] at hl
                    have := sz_pos u τ'
                    have hl' : 0 = qs.length * sz u τ' + sz u τ' := hl
                    omega
                  obtain ⟨a', e', _⟩ := r4 hne
                  rw [e] at e'
                  cases e')
              obtain ⟨g1, g2, g3⟩ := grown_row h (e := e) r3 hnews hzl xs0.length (by omega) (hlt0 hroom)
              have s2 := g1.inv.addIm w.heap.size h.fr.size (by simp) (fun k p hp => by have := h.hr.lt k p hp; omega)
              rcases g2 with ⟨g2, _⟩ | ⟨g, cap, cur, b1, b2, b3, b4, b5, b6⟩
              · have := congrArg List.length g2
                rw [List.length_append, List.length_nil] at this
                omega
              · refine ⟨_, _, _, _, _, _, hrun, hk, g1.trans s2, ?_⟩
                show CR u _ _ _ _
                rw [b1]
                have hgg : g = w.heap.size := by
                  injection b1 with b1 _ _
                  injection b1 with b1
                  injection b1 with b1
                  exact b1.symm
                refine .sl τ' (xs0 ++ ys) _ _ (cur.toList.take ((xs0 ++ ys).length * sz u τ')) b3 b4 (by rw [b6.length, flats_length]) (fun _ => ⟨_, rfl, .inr hgg, fun j v hv => ?_⟩) (fun j v c hv hc => ?_)
                · rw [Addr.add_lit, Nat.zero_add, cell_of_row _ _ j cur e (0, 0) b2]
                  rw [List.getElem?_take] at hv
                  split at hv
                  · simpa using hv
                  · cases hv
                · obtain ⟨c', hc', hcr⟩ := b6.get j v hv
                  rw [hc] at hc'
                  cases hc'
                  exact CR.ext s2.ext hcr
          · cases hk
        · -- into a part of a row
          rename_i k s lo n
          split at hk
          · rename_i e' τ' xs0 ho
            cases hee : (Nat.beq e e' && Nat.beq s (sz u τ')) with
            | false => rw [hee] at hk; cases hk
            | true =>
              rw [hee, cond_true] at hk
              rw [Bool.and_eq_true] at hee
              have := Nat.eq_of_beq_eq_true hee.1
              subst this
              have := Nat.eq_of_beq_eq_true hee.2
              subst this
              split at hk
              · rename_i xs has
                obtain ⟨eτ, rfl⟩ := asL_eq has
                subst eτ
                replace hk := ck_some hk
                obtain ⟨hfit, hk⟩ := hk
                replace hfit : lo + n + ys.length ≤ xs0.length := of_decide_eq_true hfit
                obtain ⟨hl, A, N, c, hV, A', c', rfl, a1, a2, a3, a4, a5⟩ := ha
                have h4 := a4 rfl
                have hob := h.hr.obs k
                rw [ho] at hob
                rcases hob with ⟨hnil, A0, hV0⟩ | ⟨g, cap, cur, hV0, hg, q1, q2, q3, q4⟩
                · subst hnil
                  rw [hV] at hV0
                  cases hV0
                  have e1 : lo = 0 ∧ n = 0 ∧ ys.length = 0 := by
                    replace hfit : lo + n + ys.length ≤ 0 := hfit
                    omega
                  obtain ⟨rfl, rfl, hy⟩ := e1
                  have hys : ys = [] := List.eq_nil_of_length_eq_zero hy
                  subst hys
                  have hnl : news = [] := List.eq_nil_of_length_eq_zero (by rw [hsrc.size]; simp)
                  subst hnl
                  have e0 : c' = 0 := by omega
                  subst e0
                  have hrun := run_app_stay (ty := ty) ht hux hdx i1 hsrc' A' 0 0 (Nat.le_refl _) (w' := w) (by cases A' <;> rfl)
                  refine ⟨_, _, _, V, w, Im, hrun, hk, ?_, Lv_iff.2 (by show M.upd _ k _ k ≠ _; rw [upd_same]; simp), _, _, _, hV, _, _, rfl, a1, a2, a3, a4, a5⟩
                  show Step u fx V w Im ob V w Im (M.upd ob k (.row e τ' []))
                  rw [← ho, upd_self]
                  exact .refl h
                · rw [hV] at hV0
                  cases hV0
                  have hnpos : n + ys.length ≤ c' := by omega
                  have hmul : (lo + n + ys.length) * sz u τ' ≤ xs0.length * sz u τ' := Nat.mul_le_mul_right _ hfit
                  have hmul2 : xs0.length * sz u τ' ≤ cur.size := by rw [q3]; exact Nat.mul_le_mul_right _ q1
                  have hAA : c' ≠ 0 → A' = some ⟨g, lo * sz u τ', none⟩ := fun hc0 => by
                    obtain ⟨g', e1, e2⟩ := a5 hc0
                    cases e1
                    exact e2
                  have hmm : lo * sz u τ' + n * sz u τ' + ys.length * sz u τ' = (lo + n + ys.length) * sz u τ' := by rw [Nat.add_mul, Nat.add_mul]
                  have hst := run_storeCells_row (P := P) g ((lo + n) * sz u τ') e news cur w hg (by rw [hsrc.size, ← Nat.add_mul]; omega) (R2_CR_one hnews)
                  have hst' : (match A' with | some a => storeCells (a.add (n * i.size)) news | none => pure ()).run P w = .ok () (w.setRow g (putAt cur.toList ((lo + n) * sz u τ') news).toArray) := by
                    by_cases hc0 : c' = 0
                    · have hy : ys.length = 0 := by omega
                      have hnl : news = [] := List.eq_nil_of_length_eq_zero (by rw [hsrc.size, hy]; simp)
                      subst hnl
                      have : w.setRow g (putAt cur.toList ((lo + n) * sz u τ') []).toArray = w := by
                        simp only [putAt]
                        exact setRow_self w g cur e (0, 0) hg
                      rw [this]
                      cases A' <;> rfl
                    · rw [hAA hc0]
                      show (storeCells ((⟨g, lo * sz u τ', none⟩ : Addr).add (n * i.size)) news).run P w = _
                      rw [Addr.add_lit, his, ← Nat.add_mul]
                      exact hst
                  have hrun := run_app_stay (ty := ty) ht hux hdx i1 hsrc' A' n c' hnpos hst'
                  have s := h.rewrite (ys := putAt xs0 (lo + n) ys) ho hV hg (putAt cur.toList ((lo + n) * sz u τ') news).toArray (by simp [putAt_length]) (putAt_length _ _ _) q1 q2 q3 (by
                    rw [putAt_length, putAt_flats u τ' ys xs0 (lo + n) hfit]
                    show R2 _ ((putAt cur.toList ((lo + n) * sz u τ') news).take (xs0.length * sz u τ')) _
                    rw [take_putAt _ _ _ _ (by rw [hsrc.size, ← Nat.add_mul]; exact hmul) (by rw [Array.length_toList (xs := cur)]; exact hmul2)]
                    exact putAt_R2 _ q4 hnews)
                  refine ⟨_, _, _, V, _, Im, hrun, hk, s, Lv_iff.2 (by show M.upd _ k _ k ≠ _; rw [upd_same]; simp), _, _, _, hV, _, _, rfl, by omega, by omega, (fun hc => by cases hc), fun _ => h4, fun hc0 => ⟨g, rfl, hAA hc0⟩⟩
              · cases hk
          · cases hk
        · cases hk
      · cases hk
    · cases hk
  · cases hk
end
end Go.Proofs.YtmppaodhihnejaaGreat.M
