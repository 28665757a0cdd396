/- Strings, conversions, maps, iterators. -/
import Derived.Test.YtmppaodhihnejaaGreatOpsG
import Derived.MapKept
import Derived.Laws.RangeAny
import Derived.Laws.IdiomStrings
set_option linter.unusedVariables false
namespace Go.Proofs.YtmppaodhihnejaaGreat.M
open Go

section
variable {P : Program} {u : Uni} {R : Type} {fx : Fix} {V : Nat → Value} {w : World} {Im : Nat → Prop} {ob : Nat → Ob u}

theorem cut_len {α : Type} (lo hi : Option Int) (s : List α) : (cut lo hi s).length ≤ s.length := by
  unfold cut
  split <;> simp <;> omega
theorem strSlice_ok {L : Nat → Prop} {t : TypeId} (ht : P.underlying t = some .string) (s : List UInt8) (hs : s.length ≤ strMax) {lo hi : Option Int} {lo' hi' mx' : Option Value} (bl : BR lo lo') (bh : BR hi hi') (bm : BR none mx') {kk : AV u → Option R} {z : R}
    (h : ck (inB (loOf lo) (hiOf hi s.length) s.length) (kk (cStr (cut lo hi s))) = some z) : Pure P u V L w Im (Instr.sliceAt t (.string ⟨⟨s⟩⟩) lo' hi' mx') kk z := by
  obtain ⟨h1, hk⟩ := ck_some h
  simp only [inB, Bool.and_eq_true, decide_eq_true_eq] at h1
  obtain ⟨⟨h1, h2⟩, h3⟩ := h1
  have hmx : mx' = none := by
    cases mx' with
    | none => rfl
    | some v => exact bm.elim
  subst hmx
  have hb := bounds_ok (P := P) (w := w) false s.length s.length bl bh bm (fun h => by cases h) h1 h2 (by simpa [hiOf] using h3) (by simp [hiOf]) (Nat.le_refl _)
  refine ⟨_, .string ⟨⟨cut lo hi s⟩⟩, ?_, hk, .str _ (Nat.le_trans (cut_len lo hi s) hs)⟩
  have hst := run_sliceAt_string (P := P) (w := w) t (.string ⟨⟨s⟩⟩) lo' hi' none ht
  rw [hst]
  simp only [Instr.slice, Sem.run_bind, run_underlying ht, Result.andThen, Option.isSome, Bool.false_eq_true, if_false, size_mk]
  rw [hb]
  simp only [extract_mk, Sem.run_pure, cut_eq]

def icell (n : Int) : u.C := ⟨.int .u8, n⟩
theorem flats_nums : ∀ x : List Int, x.flatMap (flat u (.int .u8)) = x.map icell
  | [] => rfl
  | n :: x => congrArg (icell n :: ·) (flats_nums x)
theorem bytes_ok (h : Inv u fx V w Im ob) {s d e : TypeId} (hs : P.underlying s = some .string) (hd : P.underlying d = some (.slice e)) (he : P.underlying e = some (.int .u8)) (x : List UInt8) (hroom : x.length ≤ roomOf)
    {kk' : Kt u R} {z : R} (hk : kk' (one (.c ⟨.sl (.int .u8), numsOf x⟩)) [] = some z) : Done P u fx V w Im ob (convert s d (.string ⟨⟨x⟩⟩)) kk' z := by
  have hrun := run_bytes_of_string (P := P) w s d e ⟨⟨x⟩⟩ hs hd he
  rw [size_mk] at hrun
  have hcap := grownCap_ge w x.length 0 e
  have hcm := grownCap_le_maxLen w x.length 0 e (by unfold roomOf at hroom; unfold maxLen; omega)
  generalize hc : grownCap w x.length 0 e = c at *
  generalize hfz : ((bytesRow ⟨⟨x⟩⟩ c).size, (bytesRow ⟨⟨x⟩⟩ c).size + 1) = fz at *
  have s1 := h.drew.trans (h.drew.inv.alloc (.cells (bytesRow ⟨⟨x⟩⟩ c) e fz))
  have s2 := s1.inv.addIm w.heap.size h.fr.size (by simp) (fun k p hp => by have := h.hr.lt k p hp; omega)
  refine ⟨_, _, _, V, _, _, hrun, hk, s1.trans s2, ?_⟩
  have e0 : x.length = (numsOf x).length := by simp [numsOf]
  show CR u _ _ _ _
  rw [e0]
  refine .sl (.int .u8) (numsOf x) _ c (x.map fun b => Value.int .u8 b.toNat) (e0 ▸ hcap) hcm ?_ (fun _ => ⟨_, rfl, .inr rfl, fun j v hv => ?_⟩) (fun j v cc hv hcc => ?_)
  · show _ = (numsOf x).length * 1
    simp [numsOf]
  · have := World.cell?_alloc_mark w.drew (bytesRow ⟨⟨x⟩⟩ c) e fz j
    rw [Addr.add_lit, Nat.zero_add]
    refine this.trans ?_
    unfold bytesRow
    rw [Array.getElem?_append_left (by simpa using (List.getElem?_eq_some_iff.1 hv).1)]
    simpa using hv
  · have hcc : ((numsOf x).flatMap (flat u (.int .u8)))[j]? = some cc := hcc
    have hcc : ((numsOf x).map (icell (u := u)))[j]? = some cc := by rw [← flats_nums]; exact hcc
    rw [numsOf, List.map_map] at hcc
    rw [List.getElem?_map] at hv hcc
    obtain ⟨b, hb, rfl⟩ := Option.map_eq_some_iff.1 hv
    rw [hb] at hcc
    cases hcc
    exact .int _ _

theorem push_bytes : ∀ (ns : List Int) (r : List UInt8), ns.foldl (fun (r : ByteArray) n => r.push (UInt8.ofNat n.toNat)) ⟨⟨r⟩⟩ = ⟨⟨r ++ bytesOf ns⟩⟩
  | [], r => by simp [bytesOf]
  | n :: ns, r => by
    rw [List.foldl_cons, show (⟨⟨r⟩⟩ : ByteArray).push (UInt8.ofNat n.toNat) = ⟨⟨r ++ [UInt8.ofNat n.toNat]⟩⟩ from by simp [ByteArray.push], push_bytes ns]
    simp [bytesOf]
theorem unbytes_ok {s d e : TypeId} (hs : P.underlying s = some (.slice e)) (hd : P.underlying d = some .string) (he : P.underlying e = some (.int .u8)) {x : List Int} {v : Value} (hr : Reads u w Im (.int .u8) x v) :
    (convert s d v).run P w = .ok (.string ⟨⟨bytesOf x⟩⟩) w := by
  obtain ⟨A, c, vs, rfl, h1, h2, h3, h4⟩ := hr
  replace h3 : R2 (fun y k => CR u w Im y k) vs (x.map icell) := by rw [← flats_nums]; exact h3
  have hvs : vs = x.map (Value.int .u8) := by
    clear h4 h1
    induction x generalizing vs with
    | nil => cases vs with
      | nil => rfl
      | cons a b => exact h3.elim
    | cons n x ih => cases vs with
      | nil => exact h3.elim
      | cons a b =>
        obtain ⟨g1, g2⟩ := h3
        rw [CR.int_inv g1, ih _ g2]
        rfl
  rw [run_convert_bytes_string w s d e A _ _ hs he hd]
  cases A with
  | none =>
    have : x = [] := by
      cases x with
      | nil => rfl
      | cons a b => obtain ⟨a, e, _⟩ := h4 (by rw [hvs]; simp); cases e
    subst this
    rfl
  | some a =>
    have hl := run_loadCells_list (P := P) w a vs (fun j v hv => by
      obtain ⟨a', e, hc⟩ := h4 (by rintro rfl; simp at hv)
      cases e
      exact hc j v hv)
    have hlen : vs.length = x.length := by rw [hvs]; simp
    rw [hlen, hvs] at hl
    refine (run_bytesToString w a _ c x hl).trans ?_
    have := push_bytes x []
    rw [List.nil_append] at this
    rw [← this]
    rfl

theorem conv_ok (h : Inv u fx V w Im ob) {s d : TypeId} {ks kd : TK} (hs : KindOk P s ks) (hd : KindOk P d kd) {eu8 : Bool}
    (he1 : eu8 = true → ∀ e, ks = .sl e → P.underlying e = some (.int .u8)) (he2 : eu8 = true → ks = .str → ∀ e, kd = .sl e → P.underlying e = some (.int .u8))
    {a : AV u} {av : Value} (ha : AR u V (Lv u ob) w Im a av) {kk : AV u → Option R} {kk' : Kt u R} {z : R} (hk : conv ob ks kd eu8 a kk = some z) (hkk : ∀ r, kk r = kk' (one r) []) :
    Done P u fx V w Im ob (convert s d av) kk' z := by
  have hund : ∃ ds, P.underlying s = some ds := by
    cases ks
    case st => obtain ⟨f, hf, _⟩ := hs; exact ⟨_, hf⟩
    case fn => obtain ⟨f, b, c, hf⟩ := hs; exact ⟨_, hf⟩
    all_goals exact ⟨_, hs⟩
  obtain ⟨ds, hds⟩ := hund
  unfold conv at hk
  split at hk
  · rename_i k
    split at hk
    · rename_i k' n
      have hv := CR.int_inv (show CR u w Im av ⟨.int k', n⟩ from ha)
      subst hv
      rw [hkk] at hk
      refine ⟨_, _, _, V, w, Im, ?_, hk, .refl h, .int _ _⟩
      simp [convert, run_underlying hds, run_underlying (show P.underlying d = some (.int k) from hd), Conv.intToInt]
    · cases hk
  · split at hk
    · split at hk
      · rename_i x
        have hv := CR.str_inv (show CR u w Im av ⟨.str, x⟩ from ha)
        subst hv
        rw [hkk] at hk
        refine ⟨_, _, _, V, w, Im, ?_, hk, .refl h, .str _ (CR.str_len (show CR u w Im _ ⟨.str, x⟩ from ha))⟩
        simp [convert, run_underlying hds, run_underlying (show P.underlying d = some .string from hd)]
      · cases hk
    · rename_i e
      cases eu8 with
      | false => cases hk
      | true =>
        rw [cond_true] at hk
        split at hk
        · rename_i xs hx
          rw [hkk] at hk
          exact ⟨_, _, _, V, w, Im, unbytes_ok hs hd (he1 rfl e rfl) (toL_reads h.hr ha hx), hk, .refl h, .str _ (by
            obtain ⟨Im', _, hc⟩ := toL_frz h ha hx
            obtain ⟨A, cap, vs, _, g1, g2, _⟩ := hc.inv
            have e : (bytesOf xs).length = xs.length := List.length_map ..
            rw [e]
            unfold maxLen at g2
            unfold strMax
            omega)⟩
        · cases hk
    · cases hk
  · rename_i e
    split at hk
    · split at hk
      · rename_i x
        have hv := CR.str_inv (show CR u w Im av ⟨.str, x⟩ from ha)
        subst hv
        cases eu8 with
        | false => cases hk
        | true =>
          rw [cond_true] at hk
          obtain ⟨hroom, hk⟩ := ck_some hk
          have hroom := of_decide_eq_true hroom
          rw [hkk] at hk
          exact bytes_ok h hs hd (he2 rfl rfl e rfl) x hroom hk
      · cases hk
    · cases hk
  · cases hk

/-! ### Maps -/
theorem keyK_inv {T : TypeId → Option (TI u)} (hT : TOk P T) {t : TypeId} {kt : Ty} (h : keyK (T t) kt = true) :
    (∃ k, kt = .int k ∧ P.underlying t = some (.int k)) ∨ (kt = .str ∧ P.underlying t = some .string) ∨ (kt = .bool ∧ P.underlying t = some .bool) := by
  unfold keyK at h
  split at h
  · rename_i ti ht
    have hk := (hT _ _ ht).kd
    split at h
    · rename_i k k' e
      have := of_decide_eq_true h
      subst this
      rw [e] at hk
      exact .inl ⟨k, rfl, hk⟩
    · rename_i e
      rw [e] at hk
      exact .inr (.inl ⟨rfl, hk⟩)
    · rename_i e
      rw [e] at hk
      exact .inr (.inr ⟨rfl, hk⟩)
    · cases h
  · cases h
theorem beq_mk (x x' : List UInt8) : ((⟨⟨x⟩⟩ : ByteArray) == ⟨⟨x'⟩⟩) = (x == x') := by
  rw [Bool.eq_iff_iff, MapKept.bytes_beq, beq_iff_eq]
  constructor
  · intro e; injection e with e; injection e
  · intro e; rw [e]
theorem scal_eq {τ : Ty} {a : AV u} {x : u.D τ} (h : scal τ a = some x) : a = .c ⟨τ, x⟩ := by
  unfold scal at h
  split at h
  · rw [as_eq h]
  · cases h
/-- What stands for a key. -/
theorem key_ok {d : TypeDesc} {kt : Ty} (hd : (∃ k, kt = .int k ∧ d = .int k) ∨ (kt = .str ∧ d = .string) ∨ (kt = .bool ∧ d = .bool)) {v v' : Value} {x x' : u.D kt} (h : CR u w Im v ⟨kt, x⟩) (h' : CR u w Im v' ⟨kt, x'⟩) :
    MapKept.IsKey d v ∧ Instr.sameNow d v v' = some (eqD u kt x x') ∧ (eqD u kt x x' = true → v' = v) := by
  rcases hd with ⟨k, rfl, rfl⟩ | ⟨rfl, rfl⟩ | ⟨rfl, rfl⟩
  · rw [CR.int_inv h, CR.int_inv h']
    refine ⟨rfl, by simp [Instr.sameNow, eqD], fun e => ?_⟩
    have : x = x' := eq_of_beq (α := Int) e
    rw [this]
  · have e1 := CR.str_inv h
    have e2 := CR.str_inv h'
    subst e1 e2
    refine ⟨trivial, ?_, fun e => ?_⟩
    · exact congrArg some (beq_mk x x')
    · have : x = x' := eq_of_beq (α := List UInt8) e
      rw [this]
  · rw [CR.bool_inv h, CR.bool_inv h']
    refine ⟨trivial, by simp [Instr.sameNow, eqD], fun e => ?_⟩
    have : x = x' := eq_of_beq (α := Bool) e
    rw [this]

theorem find_ok {d : TypeDesc} {kt vt : Ty} (hd : (∃ k, kt = .int k ∧ d = .int k) ∨ (kt = .str ∧ d = .string) ∨ (kt = .bool ∧ d = .bool)) {kv : Value} {x : u.D kt} (hk : CR u w Im kv ⟨kt, x⟩) :
    ∀ (ents : List MapEntry) (es : List (u.D kt × u.D vt)) (i : Nat), R2 (entR u w Im kt vt) ents es →
      (Instr.findNow d kv ents i = some none ∧ findM u kt es x = none ∧ ∀ y, setM u kt es x y = es ++ [(x, y)]) ∨
      (∃ j e, Instr.findNow d kv ents i = some (some (i + j, e.val)) ∧ ents[j]? = some e ∧ e.key = kv ∧ (∃ y0, findM u kt es x = some y0 ∧ CR u w Im e.val ⟨vt, y0⟩) ∧
        ∀ y v, CR u w Im v ⟨vt, y⟩ → R2 (entR u w Im kt vt) (ents.modify j fun e => { e with key := kv, val := v }) (setM u kt es x y))
  | [], [], i, _ => .inl ⟨rfl, rfl, fun _ => rfl⟩
  | [], _ :: _, _, h => h.elim
  | _ :: _, [], _, h => h.elim
  | e :: ents, (k', y') :: es, i, h => by
    obtain ⟨⟨h1, h2⟩, h3⟩ := h
    obtain ⟨g1, g2, g3⟩ := key_ok hd hk h1
    cases hb : eqD u kt x k' with
    | true =>
      refine .inr ⟨0, e, by simp [Instr.findNow, g2, hb], rfl, g3 hb, ⟨y', by simp [findM, hb], h2⟩, fun y v hv => ?_⟩
      simp only [setM, hb, cond_true]
      exact ⟨⟨hk, hv⟩, h3⟩
    | false =>
      rcases find_ok hd hk ents es (i + 1) h3 with ⟨f1, f2, f3⟩ | ⟨j, e', f1, f2, f3, ⟨y0, f4, f5⟩, f6⟩
      · exact .inl ⟨by simp [Instr.findNow, g2, hb, f1], by simp [findM, hb, f2], fun y => by simp [setM, hb, f3]⟩
      · refine .inr ⟨j + 1, e', by simp [Instr.findNow, g2, hb, f1]; omega, by simpa using f2, f3, ⟨y0, by simp [findM, hb, f4], f5⟩, fun y v hv => ?_⟩
        simp only [setM, hb, cond_false]
        exact ⟨⟨h1, h2⟩, f6 y v hv⟩
theorem mapUpd_ok {T : TypeId → Option (TI u)} (hT : TOk P T) (h : Inv u fx V w Im ob) {t k e : TypeId} (ht : P.underlying t = some (.map k e)) {a b c : AV u} {av bv cv : Value} (ha : AR u V (Lv u ob) w Im a av) (hb : AR u V (Lv u ob) w Im b bv) (hc : AR u V (Lv u ob) w Im c cv)
    {kk : List (Nat × Ob u) → Option R} {z : R} (hk : updOp ob (T k) a b c kk = some z) :
    ∃ us w', (Instr.mapUpdate t av bv cv).run P w = .ok () w' ∧ kk us = some z ∧ Step u fx V w Im ob V w' Im (upds ob us) := by
  unfold updOp at hk
  split at hk
  · rename_i n
    split at hk
    · rename_i kt vt es ho
      cases hkey : keyK (T k) kt with
      | false => rw [hkey] at hk; cases hk
      | true =>
        rw [hkey, cond_true] at hk
        split at hk
        · rename_i x y hx hy
          have e1 := scal_eq hx
          have e2 := scal_eq hy
          subst e1 e2
          have hob := h.hr.obs n
          rw [ho] at hob
          obtain ⟨r, ents, clock, hV, hr, hes⟩ := hob
          obtain ⟨hl, e0, _⟩ := ha
          rw [hV] at e0
          subst e0
          have hlt : r < w.heap.size := (Array.getElem?_eq_some_iff.1 hr).1
          have hp : plc (ob n) (V n) = some (r, none) := by rw [ho, hV]; rfl
          obtain ⟨d, hd, hkd⟩ : ∃ d, P.underlying k = some d ∧ ((∃ k, kt = .int k ∧ d = .int k) ∨ (kt = .str ∧ d = .string) ∨ (kt = .bool ∧ d = .bool)) := by
            rcases keyK_inv hT hkey with ⟨q, h1, h2⟩ | ⟨h1, h2⟩ | ⟨h1, h2⟩
            · exact ⟨_, h2, .inl ⟨q, h1, rfl⟩⟩
            · exact ⟨_, h2, .inr (.inl ⟨h1, rfl⟩)⟩
            · exact ⟨_, h2, .inr (.inr ⟨h1, rfl⟩)⟩
          have hik := (key_ok (u := u) hkd hb hb).1
          obtain ⟨ents', clock', hrun, hes'⟩ : ∃ ents' clock', (Instr.mapUpdate t (.map (some r)) bv cv).run P w = .ok () { w with heap := w.heap.setIfInBounds r (.map ents' clock') } ∧ R2 (entR u w Im kt vt) ents'.toList (setM u kt es x y) := by
            rcases find_ok (u := u) hkd hb ents.toList es 0 hes with ⟨f1, f2, f3⟩ | ⟨j, e', f1, f2, f3, ⟨y0, f4, f5⟩, f6⟩
            · refine ⟨ents.push { key := bv, val := cv, born := clock }, clock + 1, by simp [Instr.mapUpdate, run_underlying ht, MapKept.run_getObj_map hr, MapKept.run_checkKey hd hik, MapKept.run_findKey hd f1, MapKept.run_setObj_map _ hr, Result.andThen], ?_⟩
              rw [f3, Array.toList_push]
              exact hes.app ⟨⟨hb, hc⟩, trivial⟩
            · have hj : ents[j]? = some e' := by simpa using f2
              refine ⟨ents.modify j fun e => { key := bv, val := cv, born := e.born }, clock, by simp [Instr.mapUpdate, run_underlying ht, MapKept.run_getObj_map hr, MapKept.run_checkKey hd hik, MapKept.run_findKey hd f1, hj, f3, MapKept.run_keyThatStays hik, MapKept.run_setObj_map _ hr, Result.andThen], ?_⟩
              rw [Array.toList_modify]
              exact f6 y cv hc
          have hoth : ∀ b, b ≠ r → (w.heap.setIfInBounds r (.map ents' clock'))[b]? = w.heap[b]? := fun b hb => by simp [Ne.symm hb]
          have hIm := h.hr.notIm n _ hp
          have hOwn := h.fr.ownIn n _ hp
          have s := h.upd n (.map kt vt (setM u kt es x y)) (V n) { w with heap := w.heap.setIfInBounds r (.map ents' clock') } Im (fun _ => rfl) (by simp) rfl rfl rfl (by simp) (fun _ h => h)
            (fun b hb => hoth b (fun e => hIm (show Im r from e ▸ hb)))
            (fun k' p hk' hp' => .of_block (hoth _ (fun e => h.hr.disj k' n p _ hk' hp' hp ⟨e, .inr (.inl rfl)⟩)))
            (fun E => ⟨r, ents', clock', hV, by simp [hlt], hes'.mono fun _ _ g => ⟨CR.ext E g.1, CR.ext E g.2⟩⟩)
            (fun p hp' => by
              have : p = (r, none) := by rw [hV] at hp'; simpa [plc, eq_comm] using hp'
              subst this
              exact ⟨fun k' p' hk' hp' hc => h.hr.disj k' n p' _ hk' hp' hp ⟨hc.1.symm, .inr (.inl rfl)⟩, hIm, by simpa using hlt, hOwn⟩)
            (fun b hb => .inl hb)
            (fun b hb hO => hoth b (fun e => by
              subst e
              rcases hOwn with hOwn | hOwn
              · exact hO _ hOwn
              · simp only at hOwn; omega))
            (fun b o hb h1 h2 => by
              have : b ≠ r := by
                rintro rfl
                rcases hOwn with hOwn | hOwn
                · exact h1 hOwn
                · simp only at hOwn; omega
              exact ⟨World.cell?_of_block (w := w) (a := ⟨b, o, none⟩) (hoth _ this), World.frozen?_of_block (w := w) (a := ⟨b, o, none⟩) (hoth _ this)⟩)
          rw [upd_self] at s
          exact ⟨_, _, hrun, hk, s⟩
        · cases hk
    · cases hk
  · cases hk

theorem zeroS_ok {T : TypeId → Option (TI u)} (hT : TOk P T) {e : TypeId} {vt : Ty} {z : u.D vt} (h : zeroS (T e) vt = some z) : ∃ zv, (zeroValue e).run P w = .ok zv w ∧ CR u w Im zv ⟨vt, z⟩ := by
  unfold zeroS at h
  split at h
  · rename_i kd sz by_ z0 dn ht
    have hti := hT _ _ ht
    obtain ⟨i, zv, i1, i2, i3, i4, i5, i6, i7⟩ := hti.inf
    have e0 := scal_eq h
    subst e0
    have h1 := i7 rfl
    have h2 := i5 (fun _ => .nilFunc) (fun _ => True) w Im
    rw [h1] at h2
    exact ⟨zv, run_zeroValue i1 i4 w, h2.1⟩
  · cases h

theorem lookOp_ok {T : TypeId → Option (TI u)} (hT : TOk P T) (h : Inv u fx V w Im ob) {t k e : TypeId} (ht : P.underlying t = some (.map k e)) {a b : AV u} {av bv : Value} (ha : AR u V (Lv u ob) w Im a av) (hb : AR u V (Lv u ob) w Im b bv) {ok : Bool}
    {kk : Slot u → Option R} {z : R} (hk : lookOp ob (T k) (T e) a b ok kk = some z) :
    PureS P u V (Lv u ob) w Im (Instr.lookup t av bv ok) kk z := by
  unfold lookOp at hk
  split at hk
  · rename_i n
    split at hk
    · rename_i kt vt es ho
      cases hkey : keyK (T k) kt with
      | false => rw [hkey] at hk; cases hk
      | true =>
        rw [hkey, cond_true] at hk
        split at hk
        · rename_i x zz hx hz
          have e1 := scal_eq hx
          subst e1
          have hob := h.hr.obs n
          rw [ho] at hob
          obtain ⟨r, ents, clock, hV, hr, hes⟩ := hob
          obtain ⟨hl, e0, _⟩ := ha
          rw [hV] at e0
          subst e0
          obtain ⟨d, hd, hkd⟩ : ∃ d, P.underlying k = some d ∧ ((∃ k, kt = .int k ∧ d = .int k) ∨ (kt = .str ∧ d = .string) ∨ (kt = .bool ∧ d = .bool)) := by
            rcases keyK_inv hT hkey with ⟨q, h1, h2⟩ | ⟨h1, h2⟩ | ⟨h1, h2⟩
            · exact ⟨_, h2, .inl ⟨q, h1, rfl⟩⟩
            · exact ⟨_, h2, .inr (.inl ⟨h1, rfl⟩)⟩
            · exact ⟨_, h2, .inr (.inr ⟨h1, rfl⟩)⟩
          have hik := (key_ok (u := u) hkd hb hb).1
          obtain ⟨zv, hzr, hzc⟩ := zeroS_ok (w := w) (Im := Im) hT hz
          have key : ∃ v, (Instr.lookup t (.map (some r)) bv ok).run P w = .ok (if ok then .tuple #[v, .bool (findM u kt es x).isSome] else v) w ∧ CR u w Im v ⟨vt, (findM u kt es x).getD zz⟩ := by
            rcases find_ok (u := u) hkd hb ents.toList es 0 hes with ⟨f1, f2, f3⟩ | ⟨j, e', f1, f2, f3, ⟨y0, f4, f5⟩, f6⟩
            · refine ⟨zv, ?_, by rw [f2]; exact hzc⟩
              simp [Instr.lookup, run_underlying ht, MapKept.run_getObj_map hr, MapKept.run_checkKey hd hik, MapKept.run_findKey hd f1, hzr, f2, Result.andThen]
            · refine ⟨e'.val, ?_, by rw [f4]; exact f5⟩
              simp [Instr.lookup, run_underlying ht, MapKept.run_getObj_map hr, MapKept.run_checkKey hd hik, MapKept.run_findKey hd f1, f4, Result.andThen]
          obtain ⟨v, hrun, hv⟩ := key
          cases ok with
          | true => exact ⟨_, _, hrun, hk, _, rfl, hv, .bool _, trivial⟩
          | false => exact ⟨_, _, hrun, hk, hv⟩
        · cases hk
    · cases hk
  · cases hk

theorem mkMap_ok (h : Inv u fx V w Im ob) {t : TypeId} {dk : Nat} {kt vt : Option (TI u)} {kk : AV u → List (Nat × Ob u) → Option R} {kk' : Kt u R} (hkk : ∀ r us, kk r us = kk' (one r) us) {z : R} (hk : mkMap dk ob kt vt kk = some z) :
    Done P u fx V w Im ob (Instr.makeMap t none) kk' z := by
  unfold mkMap at hk
  split at hk
  · rename_i _ _ _ _ _ k _ _ _ _ _ v
    split at hk
    · rename_i hf
      rw [hkk] at hk
      have s1 := h.alloc (.map #[] 0)
      have s2 := s1.inv.here dk (.map k v []) (.map (some w.heap.size)) (fun hl => absurd hf (Lv_iff.1 hl)) (by simp) (fun E => ⟨_, _, _, rfl, heap_alloc_new w _, trivial⟩)
        (fun p hp => by
          simp [plc] at hp
          subst hp
          exact ⟨fun k p hk hp hc => by have := h.hr.lt k p hp; have := hc.1; simp only at this; omega, fun hi => by have := h.hr.imLt _ hi; omega, by simp, .inr h.fr.size⟩)
      refine ⟨_, _, .map (some w.heap.size), _, w.alloc (.map #[] 0), Im, by simp [Instr.makeMap], hk, s1.trans s2, Lv_iff.2 (by show M.upd _ dk _ dk ≠ _; rw [upd_same]; simp), (upd_same _ _ _).symm, _, rfl⟩
    · cases hk
  · cases hk

/-! ### Iterators -/
theorem range_ok (h : Inv u fx V w Im ob) {t : TypeId} (ht : P.underlying t = some .string) {dk : Nat} (hf : ob dk = .fresh) (s : List UInt8) :
    ∃ V', (Instr.range t (.string ⟨⟨s⟩⟩)).run P w = .ok (.pointer (some ⟨w.heap.size, 0, none⟩)) (w.iter ⟨⟨s⟩⟩ 0) ∧ Step u fx V w Im ob V' (w.iter ⟨⟨s⟩⟩ 0) Im (M.upd ob dk (.sit s 0)) ∧ V' dk = .pointer (some ⟨w.heap.size, 0, none⟩) := by
  have s1 := h.alloc (.stringIter ⟨⟨s⟩⟩ 0)
  have s2 := s1.inv.here dk (.sit s 0) (.pointer (some ⟨w.heap.size, 0, none⟩)) (fun hl => absurd hf (Lv_iff.1 hl)) (by simp) (fun E => ⟨_, rfl, heap_alloc_new w _⟩)
    (fun p hp => by
      simp [plc] at hp
      subst hp
      exact ⟨fun k p hk hp hc => by have := h.hr.lt k p hp; have := hc.1; simp only at this; omega, fun hi => by have := h.hr.imLt _ hi; omega, by simp, .inr h.fr.size⟩)
  exact ⟨_, run_range_string (P := P) w t ⟨⟨s⟩⟩ ht, s1.trans s2, upd_same _ _ _⟩

theorem next_ok (h : Inv u fx V w Im ob) {k : Nat} {s : List UInt8} {pos : Nat} (ho : ob k = .sit s pos) {v : Value} (hv : v = V k) (ty : TypeId) :
    (if pos < s.length then
      ∃ w', (Instr.next v true ty).run P w = .ok (.tuple #[.bool true, .int .i64 pos, .int .i32 (Utf8.decode ⟨⟨s⟩⟩ pos).1]) w' ∧ Step u fx V w Im ob V w' Im (M.upd ob k (.sit s (pos + (Utf8.decode ⟨⟨s⟩⟩ pos).2)))
    else (Instr.next v true ty).run P w = .ok (.tuple #[.bool false]) w) := by
  have hob := h.hr.obs k
  rw [ho] at hob
  obtain ⟨r, hV, hr⟩ := hob
  have hlt : r < w.heap.size := (Array.getElem?_eq_some_iff.1 hr).1
  have hp : plc (ob k) (V k) = some (r, none) := by rw [ho, hV]; rfl
  rw [hv, hV]
  have hg : (getObj r).run P w = .ok (.stringIter ⟨⟨s⟩⟩ pos) w := by simp [getObj, Sem.run, hr]
  have hset : ∀ o, (setObj r o).run P w = .ok () { w with heap := w.heap.setIfInBounds r o } := fun o => by simp [setObj, Sem.run, hr]
  have hoth : ∀ o b, b ≠ r → (w.heap.setIfInBounds r o)[b]? = w.heap[b]? := fun o b hb => by simp [Ne.symm hb]
  have hIm := h.hr.notIm k _ hp
  have hOwn := h.fr.ownIn k _ hp
  split
  · rename_i hlp
    have s := h.upd k (.sit s (pos + (Utf8.decode ⟨⟨s⟩⟩ pos).2)) (V k) { w with heap := w.heap.setIfInBounds r (.stringIter ⟨⟨s⟩⟩ (pos + (Utf8.decode ⟨⟨s⟩⟩ pos).2)) } Im (fun _ => rfl) (by simp) rfl rfl rfl (by simp) (fun _ h => h)
      (fun b hb => hoth _ b (fun e => hIm (show Im r from e ▸ hb)))
      (fun k' p hk' hp' => .of_block (hoth _ _ (fun e => h.hr.disj k' k p _ hk' hp' hp ⟨e, .inr (.inl rfl)⟩)))
      (fun E => ⟨r, hV, by simp [hlt]⟩)
      (fun p hp' => by
        have : p = (r, none) := by rw [hV] at hp'; simpa [plc, eq_comm] using hp'
        subst this
        exact ⟨fun k' p' hk' hp' hc => h.hr.disj k' k p' _ hk' hp' hp ⟨hc.1.symm, .inr (.inl rfl)⟩, hIm, by simpa using hlt, hOwn⟩)
      (fun b hb => .inl hb)
      (fun b hb hO => hoth _ b (fun e => by
        subst e
        rcases hOwn with hOwn | hOwn
        · exact hO _ hOwn
        · simp only at hOwn; omega))
      (fun b o hb h1 h2 => by
        have : b ≠ r := by
          rintro rfl
          rcases hOwn with hOwn | hOwn
          · exact h1 hOwn
          · simp only at hOwn; omega
        exact ⟨World.cell?_of_block (w := w) (a := ⟨b, o, none⟩) (hoth _ _ this), World.frozen?_of_block (w := w) (a := ⟨b, o, none⟩) (hoth _ _ this)⟩)
    rw [upd_self] at s
    refine ⟨_, ?_, s⟩
    simp [Instr.next, hg, hset, Result.andThen, size_mk, hlp, goInt]
  · rename_i hlp
    simp [Instr.next, hg, Result.andThen, size_mk, hlp]
end
end Go.Proofs.YtmppaodhihnejaaGreat.M
