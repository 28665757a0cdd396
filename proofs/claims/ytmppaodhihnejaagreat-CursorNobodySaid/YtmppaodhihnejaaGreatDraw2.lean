/- Regions whose order is drawn: two operations that do not hang on one another change places; so all orders come to the same. -/
import Derived.Test.YtmppaodhihnejaaGreatDraw
set_option linter.unusedVariables false
namespace Go.Proofs.YtmppaodhihnejaaGreat.M
open Go

section
variable {u : Uni} {R : Type}

def onlyNil (kk : Kt u R) : Kt u R := fun v us => match us with
  | [] => kk v []
  | _ => none
theorem sem_pure {cx : Cx u R} {ev : Operand → Slot u} {lk : Nat → Ob u} {dk : Nat} {op : Op} (hp : isP op = true) (kk : Kt u R) : sem cx ev lk dk op kk = sem cx ev lk dk op (onlyNil kk) := by
  cases op with
  | call c =>
    obtain ⟨callee, as, ats⟩ := c
    cases callee with
    | builtin b =>
      cases b with
      | len =>
        obtain ⟨as⟩ := as
        match as with
        | [] => rfl
        | x :: y :: r =>
          simp only [sem, List.map_cons]
          cases hx : ev x with
          | sv s => cases s <;> rfl
          | _ => rfl
        | [x] =>
          simp only [sem, List.map_cons, List.map_nil]
          cases hx : ev x with
          | sv s => cases s <;> rfl
          | _ => rfl
      | _ => cases hp
    | _ => cases hp
  | _ => first | rfl | (cases hp; done)
theorem sem_P {cx : Cx u R} (ho : OrcsME cx.o) {ev : Operand → Slot u} {lk : Nat → Ob u} {dk : Nat} {op : Op} (hp : isP op = true) {kk : Kt u R} {z : R} (h : sem cx ev lk dk op kk = some z) :
    ∃ v, kk v [] = some z ∧ ∀ kk' z', kk' v [] = some z' → sem cx ev lk dk op kk' = some z' := by
  rw [sem_pure hp] at h
  obtain ⟨v, us, h1, h2⟩ := me_sem ho _ _ _ _ _ z h
  cases us with
  | nil => exact ⟨v, h1, fun kk' z' h' => h2 kk' z' h'⟩
  | cons a b => cases h1

def wantA (ops : Array Oper) (o : Oper) (σ : St u) : Option Bool := match o.guard with
  | none => some true
  | some (j, want) => match (nthO ops.toList j).bind (·.dst) with
    | some t => match rdBool (σ.sl t) with
      | some b => some (b == want)
      | none => bif isUnd (σ.sl t) then some false else none
    | none => none
theorem gOp_want (ops : Array Oper) (o : Oper) (σ : St u) (p s : St u → Option R) : gOp ops o σ p s = match wantA ops o σ with
    | some true => p σ
    | some false => s σ
    | none => none := by
  rw [gOp_eq]
  unfold wantA
  cases o.guard with
  | none => rfl
  | some g =>
    obtain ⟨j, want⟩ := g
    simp only
    cases (nthO ops.toList j).bind (·.dst) with
    | none => rfl
    | some t =>
      simp only
      cases rdBool (σ.sl t) with
      | none => simp only; cases isUnd (σ.sl t) <;> rfl
      | some b => simp only; cases b == want <;> rfl

/-- What an operation did: the operation, its value, what it changed, what it touched. -/
structure Did (u : Uni) where
  o : Oper
  v : Slot u
  us : List (Nat × Ob u)
  e : LE
  dk : Nat
def Did.after (d : Did u) (σ : St u) : St u := (σ.obs d.us).put d.o.dst d.v
/-- What an operation comes to, in a state. -/
structure Does (cx : Cx u R) (ops : Array Oper) (i : Nat) (σ : St u) (d : Did u) : Prop where
  at_ : nthO ops.toList i = some d.o
  ks : d.e.ks = keysOf d.us
  p : d.e.p = true → d.us = []
  alt : (wantA ops d.o σ = some true ∧ (d.e.f = true → touchOk d.o.op σ.ev d.e.tk = true ∨ (isNew cx.sg d.o.op σ.ev = true ∧ d.e.tk = keysOf d.us)) ∧ ∀ kk z, kk d.v d.us = some z → sem cx σ.ev σ.ob d.dk d.o.op kk = some z) ∨ (wantA ops d.o σ = some false ∧ d.v = .und ∧ d.us = [])

theorem touches_in {ev : Operand → Slot u} : ∀ {xs : List Operand} {l : List Nat}, (∀ k ∈ touches ev xs, k ∈ l) → touchIn ev l xs = true
  | [], _, _ => rfl
  | x :: r, l, h => by
    simp only [touchIn, Bool.and_eq_true]
    refine ⟨?_, touches_in fun k hk => h k (by simp only [touches, List.mem_append]; exact .inr hk)⟩
    have : ∀ (m : List Nat), (∀ k ∈ m, k ∈ l) → allIn l m = true := by
      intro m
      induction m with
      | nil => intro _; rfl
      | cons a m ih =>
        intro hm
        simp only [allIn, Bool.and_eq_true]
        exact ⟨memN_iff.2 (hm a (.head _)), ih fun k hk => hm k (.tail _ hk)⟩
    exact this _ fun k hk => h k (by simp only [touches, List.mem_append]; exact .inl hk)
theorem touched_ok {op : Op} {ev : Operand → Slot u} (h : floats op ev = true) : touchOk op ev (touched op ev) = true := by
  unfold touchOk
  split
  · rename_i t a x
    have h : isPtr (ev a) = true := h
    rw [h, Bool.true_and]
    have := touches_in (ev := ev) (xs := [a]) (l := touches ev [a]) (fun k hk => hk)
    simp only [touchIn, Bool.and_true] at this
    exact this
  · rename_i hns
    split
    · rename_i xs hxs
      unfold touched
      rw [hxs]
      exact touches_in fun k hk => hk
    · rename_i hxs
      unfold floats at h
      split at h
      · exact absurd rfl (hns _ _ _)
      · rw [hxs] at h
        cases h

theorem entry_ks {sg : FuncId → Option Sig} {i : Nat} {op : Op} {ev : Operand → Slot u} {us : List (Nat × Ob u)} : (entry sg i op ev us).ks = keysOf us := by unfold entry; cases isNew sg op ev <;> rfl
theorem entry_i {sg : FuncId → Option Sig} {i : Nat} {op : Op} {ev : Operand → Slot u} {us : List (Nat × Ob u)} : (entry sg i op ev us).i = i := by unfold entry; cases isNew sg op ev <;> rfl
theorem entry_p {sg : FuncId → Option Sig} {i : Nat} {op : Op} {ev : Operand → Slot u} {us : List (Nat × Ob u)} : (entry sg i op ev us).p = isP op := by unfold entry; cases isNew sg op ev <;> rfl
theorem entry_tk {sg : FuncId → Option Sig} {i : Nat} {op : Op} {ev : Operand → Slot u} {us : List (Nat × Ob u)} (h : (entry sg i op ev us).f = true) : touchOk op ev (entry sg i op ev us).tk = true ∨ (isNew sg op ev = true ∧ (entry sg i op ev us).tk = keysOf us) := by
  unfold entry at h ⊢
  cases hn : isNew sg op ev with
  | true => exact .inr ⟨rfl, rfl⟩
  | false =>
    rw [hn] at h
    exact .inl (touched_ok h)
theorem allFresh_mk {lk : Nat → Ob u} : ∀ {n k : Nat}, (∀ j, j < n → lk (k + j) = .fresh) → allFresh lk k n = true
  | 0, k, h => rfl
  | n + 1, k, h => by
    have := h 0 (by omega)
    rw [Nat.add_zero] at this
    simp only [allFresh, this]
    exact allFresh_mk fun j hj => by rw [Nat.add_assoc, Nat.add_comm 1 j]; exact h (j + 1) (by omega)
theorem keys_setCells : ∀ (cs : List (AV u)) (k j : Nat), j < cs.length → k + j ∈ keysOf (setCells k cs)
  | [], k, j, h => by simp at h
  | a :: r, k, j, h => by
    cases j with
    | zero => exact .head _
    | succ j =>
      have := keys_setCells r (k + 1) j (by simpa using h)
      rw [show k + (j + 1) = k + 1 + j by omega]
      exact .tail _ this
theorem keys_zipK {f : Nat → Nat} : ∀ (bs : List (Ob u)) (i j : Nat), j < bs.length → f (i + j) ∈ keysOf (zipK f i bs)
  | [], i, j, h => by simp at h
  | b :: r, i, j, h => by
    cases j with
    | zero => exact .head _
    | succ j =>
      have := keys_zipK (f := f) r (i + 1) j (by simpa using h)
      rw [show i + (j + 1) = i + 1 + j by omega]
      exact .tail _ this
theorem coerceSs_none (lk : Nat → Ob u) : ∀ xs : List (SV u), coerceSs lk [] xs = some (xs, [])
  | [] => rfl
  | _ :: _ => rfl
theorem svs_refs {ev : Operand → Slot u} : ∀ {xs : List Operand} {l : List (SV u)}, svs (xs.map ev) = some l → allNo (xs.map ev) = true → refsS l = []
  | [], l, h, _ => by cases h; rfl
  | x :: r, l, h, hn => by
    simp only [List.map_cons] at h hn
    simp only [allNo, Bool.and_eq_true] at hn
    cases hx : ev x with
    | sv y =>
      rw [hx] at h hn
      simp only [svs] at h
      split at h
      · rename_i l' hl
        cases h
        have hy : y.cells.flatMap refs = [] := by
          have := hn.1
          unfold noRefs at this
          split at this
          · rename_i e; exact e
          · cases this
        show y.cells.flatMap refs ++ refsS l' = []
        rw [hy, svs_refs hl hn.2]
        rfl
      · cases h
    | _ => rw [hx] at h; cases h
theorem sem_new {cx : Cx u R} (ho : OrcsME cx.o) {ev : Operand → Slot u} {lk lk' : Nat → Ob u} {dk : Nat} {op : Op} (hn : isNew cx.sg op ev = true) {v : Slot u} {us : List (Nat × Ob u)} (hall : ∀ (kk : Kt u R) z, kk v us = some z → sem cx ev lk dk op kk = some z)
    (hk : ∀ k ∈ keysOf us, lk k = lk' k) {kk : Kt u R} {z : R} (hz : kk v us = some z) : sem cx ev lk' dk op kk = some z := by
  classical
  have h := hall (fun v' us' => if v' = v ∧ us' = us then some z else none) z (by simp)
  have fin : ∀ v' us', (if v' = v ∧ us' = us then some z else none) = some z → v' = v ∧ us' = us := by
    intro v' us' e
    apply Classical.byContradiction
    intro hc
    rw [if_neg hc] at e
    cases e
  have hbox : ∀ cs : List (AV u), boxOp lk dk cs (fun r us' => if one r = v ∧ us' = us then some z else none) = some z → boxOp lk' dk cs (fun r us => kk (one r) us) = some z := by
    intro cs hb
    unfold boxOp at hb ⊢
    cases hf : allFresh lk dk cs.length with
    | false => rw [hf] at hb; cases hb
    | true =>
      rw [hf, cond_true] at hb
      obtain ⟨rfl, rfl⟩ := fin _ _ hb
      rw [allFresh_mk (lk := lk') fun j hj => by rw [← hk _ (keys_setCells cs dk j hj)]; exact allFresh_at hf j hj, cond_true]
      exact hz
  unfold isNew at hn
  split at hn
  · rename_i t
    simp only [sem] at h ⊢
    cases ht : cx.T t with
    | none => rw [ht] at h; cases h
    | some ti =>
      rw [ht] at h
      exact hbox _ h
  · rename_i t x
    simp only [sem] at h ⊢
    split at h
    · rename_i ti y h1 h2
      cases hb : (Nat.beq y.cells.length ti.size && noDead y.cells) with
      | false => rw [hb] at h; cases h
      | true =>
        rw [hb, cond_true] at h
        exact hbox _ h
    · cases h
  · rename_i c
    obtain ⟨callee, as_, ats⟩ := c
    cases callee with
    | value g =>
      simp only [Bool.and_eq_true] at hn
      obtain ⟨hg, hno⟩ := hn
      unfold plainFn at hg
      split at hg
      · rename_i f hev
        have hsg : cx.sg f = none := by simpa using hg
        simp only [sem, hev] at h ⊢
        cases hs : svs (as_.toList.map ev) with
        | none => rw [hs] at h; cases h
        | some args =>
          rw [hs] at h
          simp only at h ⊢
          have hrefs : refsS args = [] := svs_refs hs hno
          unfold callOp at h ⊢
          simp only [hsg, coerceSs_none, hrefs] at h ⊢
          have hre : ∀ l : Nat → Ob u, reach l reachFuel ([] : List Nat) [] = some [] := fun l => by simp [reach, reachFuel]
          simp only [hre] at h ⊢
          simp only [nodupN, allLive, Bool.and_self, cond_true, renObs, List.length_nil] at h ⊢
          split at h
          · rename_i as1 os1 has hos
            cases hos
            obtain ⟨res, obs, g1, g2⟩ := ho.1 f as1 [] _ z h
            cases hc : (Nat.ble 0 obs.length && allFresh (upds lk []) dk (obs.length - 0)) with
            | false => rw [hc] at g1; cases g1
            | true =>
              rw [hc, cond_true] at g1
              split at g1
              · rename_i rs bs hrs hbs
                obtain ⟨rfl, rfl⟩ := fin _ _ g1
                refine g2 _ _ ?_
                have hlen := (renObL_get hbs).1
                rw [Bool.and_eq_true] at hc
                have hf : allFresh (upds lk' []) dk (obs.length - 0) = true := allFresh_mk fun j hj => by
                  have hj' : j < bs.length := by omega
                  have := keys_zipK (f := backN [] 0 dk) bs 0 j hj'
                  have e : backN [] 0 dk (0 + j) = dk + j := by simp [backN, nthN]
                  rw [e] at this
                  show lk' (dk + j) = .fresh
                  rw [← hk _ this]
                  exact allFresh_at hc.2 j hj
                rw [hc.1, hf, hrs, hbs]
                exact hz
              · cases g1
          · cases h
      · cases hg
    | _ => cases hn
  · cases hn
theorem allNo_ev {ev ev' : Operand → Slot u} : ∀ {xs : List Operand}, (∀ x ∈ xs, ev x = ev' x) → xs.map ev = xs.map ev'
  | [], _ => rfl
  | x :: r, h => by rw [List.map_cons, List.map_cons, h x (.head _), allNo_ev fun y hy => h y (.tail _ hy)]
theorem isNew_ev {sg : FuncId → Option Sig} {ev ev' : Operand → Slot u} {op : Op} (h : ∀ x ∈ opsOf op, ev x = ev' x) : isNew sg op ev = isNew sg op ev' := by
  unfold isNew
  split
  · rfl
  · rfl
  · rename_i c
    obtain ⟨callee, as_, ats⟩ := c
    cases callee with
    | value g =>
      simp only
      rw [h g (by simp [opsOf]), allNo_ev (ev := ev) (ev' := ev') fun x hx => h x (by simp only [opsOf]; exact .tail _ hx)]
    | _ => rfl
  · rfl
theorem does_of {cx : Cx u R} (ho : OrcsME cx.o) {ops : Array Oper} {ms : List Nat} {i : Nat} {log : List LE} {σ : St u} {K : List LE → St u → Option R} {z : R} (h : stepL cx ops ms i log σ K = some z) :
    ∃ d : Did u, Does cx ops i σ d ∧ d.e.i = i ∧ K (d.e :: log) (d.after σ) = some z ∧ (logOk (nthM ms i) d.e log = true ∨ d.e = skipped i) := by
  unfold stepL at h
  split at h
  · rename_i o hat
    rw [gOp_want] at h
    split at h
    · rename_i hw
      obtain ⟨dk, h, _⟩ := withK_get h
      have fin : ∀ v us, (bif logOk (nthM ms i) (entry cx.sg i o.op σ.ev us) log then K (entry cx.sg i o.op σ.ev us :: log) ((σ.obs us).put o.dst v) else none) = some z → (isP o.op = true → us = []) →
          (∀ kk' z', kk' v us = some z' → sem cx σ.ev σ.ob dk o.op kk' = some z') → ∃ d : Did u, Does cx ops i σ d ∧ d.e.i = i ∧ K (d.e :: log) (d.after σ) = some z ∧ (logOk (nthM ms i) d.e log = true ∨ d.e = skipped i) := by
        intro v us h1 h2 h3
        cases hc : logOk (nthM ms i) (entry cx.sg i o.op σ.ev us) log with
        | false => rw [hc] at h1; cases h1
        | true =>
          rw [hc] at h1
          exact ⟨⟨o, v, us, entry cx.sg i o.op σ.ev us, dk⟩, ⟨hat, entry_ks, fun hp => h2 (by rw [← hp]; exact entry_p.symm), .inl ⟨hw, entry_tk, h3⟩⟩, entry_i, h1, .inl hc⟩
      cases hp : isP o.op with
      | true =>
        obtain ⟨v, h1, h2⟩ := sem_P ho hp h
        exact fin v [] h1 (fun _ => rfl) h2
      | false =>
        obtain ⟨v, us, h1, h2⟩ := me_sem ho _ _ _ _ _ z h
        exact fin v us h1 (fun e => by rw [hp] at e; cases e) h2
    · rename_i hw
      exact ⟨⟨o, .und, [], skipped i, 0⟩, ⟨hat, rfl, fun _ => rfl, .inr ⟨hw, rfl, rfl⟩⟩, rfl, h, .inr rfl⟩
    · cases h
  · cases h

theorem does_plain {cx : Cx u R} {ops : Array Oper} {i : Nat} {σ : St u} {d : Did u} (h : Does cx ops i σ d) {K : St u → Option R} {z : R} (hK : K (d.after σ) = some z) :
    gOp ops d.o σ (fun σ => opKd cx d.dk d.o σ K) (fun σ => K (σ.put d.o.dst .und)) = some z := by
  rw [gOp_want]
  rcases h.alt with ⟨hw, h2, h3⟩ | ⟨hw, hv, hu⟩
  · rw [hw]
    exact h3 _ z hK
  · rw [hw]
    unfold Did.after at hK
    rw [hv, hu] at hK
    exact hK

/-! ### What hangs on what -/
def tmpsOf : List Operand → List Nat
  | [] => []
  | .tmp t :: r => t :: tmpsOf r
  | _ :: r => tmpsOf r
def readsOf (ops : Array Oper) (o : Oper) : List Nat := (match o.guard with
  | none => []
  | some (j, _) => match (nthO ops.toList j).bind (·.dst) with
    | some t => [t]
    | none => []) ++ tmpsOf (opsOf o.op)
theorem tmpsOf_mem {t : Nat} : ∀ {xs : List Operand}, Operand.tmp t ∈ xs → t ∈ tmpsOf xs
  | x :: r, h => by
    cases h with
    | head => exact .head _
    | tail _ h =>
      have := tmpsOf_mem h
      cases x <;> simp only [tmpsOf] <;> first | exact this | exact .tail _ this
theorem ev_agree {σ σ' : St u} {xs : List Operand} (h : ∀ t ∈ tmpsOf xs, σ.sl t = σ'.sl t) : ∀ x ∈ xs, σ.ev x = σ'.ev x := by
  intro x hx
  cases x with
  | tmp t => exact h t (tmpsOf_mem hx)
  | _ => rfl
theorem touchIn_ev {ev ev' : Operand → Slot u} {tk : List Nat} : ∀ {xs : List Operand}, (∀ x ∈ xs, ev x = ev' x) → touchIn ev tk xs = touchIn ev' tk xs
  | [], _ => rfl
  | x :: r, h => by
    simp only [touchIn]
    rw [h x (.head _), touchIn_ev fun y hy => h y (.tail _ hy)]
theorem memOps_sub {op : Op} {xs : List Operand} (h : memOps op = some xs) : ∀ x ∈ xs, x ∈ opsOf op := by
  cases op <;> simp only [memOps] at h <;> try (cases h; done)
  all_goals first
    | (cases h; intro x hx; simp at hx; done)
    | (cases h; intro x hx; simp only [List.mem_cons, List.not_mem_nil, or_false] at hx; subst hx; simp [opsOf]; done)
    | skip
  rename_i c
  obtain ⟨callee, as, ats⟩ := c
  split at h
  · rename_i hc
    simp only at hc
    subst hc
    cases h
    intro x hx
    exact hx
  · cases h
theorem touchOk_ev {ev ev' : Operand → Slot u} {op : Op} {tk : List Nat} (h : ∀ x ∈ opsOf op, ev x = ev' x) : touchOk op ev tk = touchOk op ev' tk := by
  unfold touchOk
  split
  · rename_i t a x
    rw [h a (by simp [opsOf])]
  · split
    · rename_i xs hxs
      exact touchIn_ev fun x hx => h x (memOps_sub hxs x hx)
    · rfl

theorem does_congr {cx : Cx u R} (ho : OrcsME cx.o) {ops : Array Oper} {i : Nat} {σ σ' : St u} {d : Did u} (h : Does cx ops i σ d) (hs : ∀ t ∈ readsOf ops d.o, σ.sl t = σ'.sl t)
    (hm : σ.ob = σ'.ob ∨ (d.e.f = true ∧ ∀ k ∈ d.e.tk, σ.ob k = σ'.ob k)) : Does cx ops i σ' d := by
  have hev : ∀ x ∈ opsOf d.o.op, σ.ev x = σ'.ev x := ev_agree fun t ht => hs t (List.mem_append_right _ ht)
  have hw : wantA ops d.o σ' = wantA ops d.o σ := by
    have hs' : ∀ t, t ∈ (match d.o.guard with | none => [] | some (j, _) => match (nthO ops.toList j).bind (·.dst) with | some t => [t] | none => []) → σ.sl t = σ'.sl t := fun t ht => hs t (List.mem_append_left _ ht)
    unfold wantA
    cases hg : d.o.guard with
    | none => rfl
    | some g =>
      obtain ⟨j, want⟩ := g
      rw [hg] at hs'
      simp only at hs' ⊢
      cases ht : (nthO ops.toList j).bind (·.dst) with
      | none => rfl
      | some t =>
        rw [ht] at hs'
        simp only
        rw [hs' t (by simp)]
  refine ⟨h.at_, h.ks, h.p, ?_⟩
  rcases h.alt with ⟨h1, h2, h4⟩ | ⟨h1, h2, h3⟩
  · refine .inl ⟨hw.trans h1, fun hf => by rw [← touchOk_ev hev, ← isNew_ev hev]; exact h2 hf, fun kk z hk => ?_⟩
    rw [← sem_ev hev]
    rcases hm with hm | ⟨hf, hm⟩
    · rw [← hm]
      exact h4 kk z hk
    · rcases h2 hf with h5 | ⟨h5, h6⟩
      · rw [← sem_lk (lk := σ.ob) h5 hm]
        exact h4 kk z hk
      · exact sem_new ho h5 h4 (fun k hk' => hm k (by rw [h6]; exact hk')) hk
  · exact .inr ⟨hw.trans h1, h2, h3⟩

/-! ### Changing places -/
def dstFree (o : Oper) (l : List Nat) : Bool := match o.dst with
  | some d => !(memN d l)
  | none => true
def dstNe (o o' : Oper) : Bool := match o.dst, o'.dst with
  | some d, some d' => !(Nat.beq d d')
  | _, _ => true
def indep (ops : Array Oper) (j i : Nat) : Bool :=
  match nthO ops.toList j, nthO ops.toList i with
  | some oj, some oi => dstFree oj (readsOf ops oi) && (dstFree oi (readsOf ops oj) && dstNe oj oi)
  | _, _ => false

theorem put_sl {σ : St u} {o : Oper} {us : List (Nat × Ob u)} {v : Slot u} {l : List Nat} (h : dstFree o l = true) : ∀ t ∈ l, σ.sl t = ((σ.obs us).put o.dst v).sl t := by
  intro t ht
  unfold dstFree at h
  cases hd : o.dst with
  | none => rfl
  | some d =>
    rw [hd] at h
    show σ.sl t = M.upd σ.sl d v t
    rw [upd_ne]
    rintro rfl
    simp only [Bool.not_eq_true', Bool.eq_false_iff] at h
    exact h (memN_iff.2 ht)
theorem put_ob {σ : St u} {o : Oper} {us : List (Nat × Ob u)} {v : Slot u} : ((σ.obs us).put o.dst v).ob = upds σ.ob us := by cases o.dst <;> rfl
theorem disj_get {a : List Nat} : ∀ {b : List Nat}, disj a b = true → ∀ k ∈ a, memN k b = false
  | [], _, k, _ => rfl
  | k' :: r, h, k, hk => by
    simp only [disj, Bool.and_eq_true, Bool.not_eq_true'] at h
    simp only [memN, Bool.or_eq_false_iff]
    refine ⟨?_, disj_get h.2 k hk⟩
    cases hb : Nat.beq k k' with
    | false => rfl
    | true =>
      have := Nat.eq_of_beq_eq_true hb
      subst this
      have := memN_iff.2 hk
      rw [h.1] at this
      cases this
theorem keysOf_eq : ∀ us : List (Nat × Ob u), keysOf us = us.map (·.1)
  | [] => rfl
  | (k, o) :: r => by simp [keysOf, keysOf_eq r]
theorem upd_comm {α : Type} (f : Nat → α) {k k' : Nat} (v v' : α) (h : k ≠ k') : upd (upd f k v) k' v' = upd (upd f k' v') k v := by
  funext i
  by_cases e : i = k
  · subst e
    rw [upd_ne _ _ h, upd_same, upd_same]
  · by_cases e' : i = k'
    · subst e'
      rw [upd_same, upd_ne _ _ e, upd_same]
    · rw [upd_ne _ _ e', upd_ne _ _ e, upd_ne _ _ e, upd_ne _ _ e']
theorem upds_upd_comm {α : Type} : ∀ (us : List (Nat × α)) (f : Nat → α) (k : Nat) (v : α), memN k (us.map (·.1)) = false → upds (upd f k v) us = upd (upds f us) k v
  | [], _, _, _, _ => rfl
  | (k', v') :: r, f, k, v, h => by
    simp only [List.map_cons, memN, Bool.or_eq_false_iff] at h
    have hne : k ≠ k' := by
      rintro rfl
      rw [show Nat.beq k k = true from Nat.beq_refl k] at h
      cases h.1
    simp only [upds]
    rw [upd_comm _ _ _ hne, upds_upd_comm r _ _ _ h.2]
theorem upds_comm {α : Type} : ∀ (us vs : List (Nat × α)) (f : Nat → α), (∀ p ∈ us, memN p.1 (vs.map (·.1)) = false) → upds (upds f us) vs = upds (upds f vs) us
  | [], _, _, _ => rfl
  | (k, v) :: r, vs, f, h => by
    simp only [upds]
    rw [upds_comm r vs _ (fun p hp => h p (.tail _ hp)), upds_upd_comm vs f k v (h _ (.head _))]

/-- Operations one behind the other. -/
def Tr (cx : Cx u R) (ops : Array Oper) (A : Nat → Did u) : List Nat → St u → St u → Prop
  | [], σ, σ' => σ = σ'
  | i :: r, σ, σ' => Does cx ops i σ (A i) ∧ Tr cx ops A r ((A i).after σ) σ'

theorem swapD {cx : Cx u R} (ho : OrcsME cx.o) {ops : Array Oper} {A : Nat → Did u} {j i : Nat} (hi : indep ops j i = true) (hc : conf (A j).e (A i).e = true) {r : List Nat} {σ σ' : St u} (h : Tr cx ops A (j :: i :: r) σ σ') : Tr cx ops A (i :: j :: r) σ σ' := by
  obtain ⟨dj, di, ht⟩ := h
  unfold indep at hi
  rw [dj.at_, di.at_] at hi
  simp only [Bool.and_eq_true] at hi
  obtain ⟨c1, c2, c3⟩ := hi
  simp only [conf, Bool.and_eq_true, Bool.or_eq_true] at hc
  obtain ⟨c4, c5, c6⟩ := hc
  have agree : ∀ {us : List (Nat × Ob u)} {f : Nat → Ob u} {tk ks : List Nat}, ks = keysOf us → disj tk ks = true → ∀ k ∈ tk, upds f us k = f k := by
    intro us f tk ks hk hd k hkt
    subst hk
    exact upds_ne us f k (by rw [← keysOf_eq]; exact disj_get hd k hkt)
  have di0 : Does cx ops i σ (A i) := by
    refine does_congr ho di (fun t ht => (put_sl c1 t ht).symm) ?_
    rw [Did.after, put_ob]
    rcases c4 with c4 | c4
    · rw [dj.p c4]
      exact .inl rfl
    · exact .inr ⟨c4.1, agree dj.ks c4.2⟩
  have dj1 : Does cx ops j ((A i).after σ) (A j) := by
    refine does_congr ho dj (fun t ht => put_sl c2 t ht) ?_
    rw [Did.after, put_ob]
    rcases c5 with c5 | c5
    · rw [di.p c5]
      exact .inl rfl
    · exact .inr ⟨c5.1, fun k hk => (agree di.ks c5.2 k hk).symm⟩
  refine ⟨di0, dj1, ?_⟩
  have hob : upds (upds σ.ob (A i).us) (A j).us = upds (upds σ.ob (A j).us) (A i).us := by
    rcases c6 with c6 | c6 | c6
    · rw [dj.p c6]; rfl
    · rw [di.p c6]; rfl
    · refine upds_comm _ _ σ.ob fun p hp => ?_
      rw [← keysOf_eq, ← dj.ks]
      refine disj_get c6 p.1 ?_
      rw [di.ks, keysOf_eq]
      exact List.mem_map.2 ⟨p, hp, rfl⟩
  have hst : (A j).after ((A i).after σ) = (A i).after ((A j).after σ) := by
    unfold Did.after
    unfold dstNe at c3
    cases hdj : (A j).o.dst with
    | none =>
      cases hdi : (A i).o.dst with
      | none => simp only [St.put, St.obs]; rw [hob]
      | some d => simp only [St.put, St.obs, St.set]; rw [hob]
    | some d =>
      cases hdi : (A i).o.dst with
      | none => simp only [St.put, St.obs, St.set]; rw [hob]
      | some d' =>
        rw [hdj, hdi] at c3
        have hne : d' ≠ d := by
          rintro rfl
          simp only [show Nat.beq d' d' = true from Nat.beq_refl d'] at c3
          cases c3
        simp only [St.put, St.obs, St.set]
        rw [hob, upd_comm _ _ _ hne]
  rw [hst]
  exact ht

theorem bubbleD {cx : Cx u R} (ho : OrcsME cx.o) {ops : Array Oper} {A : Nat → Did u} {i : Nat} {l2 : List Nat} {σ' : St u} : ∀ {l1 : List Nat} {σ : St u}, (∀ j ∈ l1, indep ops j i = true ∧ conf (A j).e (A i).e = true) → Tr cx ops A (l1 ++ i :: l2) σ σ' → Tr cx ops A (i :: (l1 ++ l2)) σ σ'
  | [], σ, _, h => h
  | j :: l1, σ, hl, h => by
    obtain ⟨dj, h1⟩ := h
    have h2 := bubbleD ho (l1 := l1) (fun j hj => hl j (.tail _ hj)) h1
    exact swapD ho (hl j (.head _)).1 (hl j (.head _)).2 ⟨dj, h2⟩

/-! ### Orders -/
/-- An order in which what is left, l, may be gone through. -/
inductive Sched (pr : Nat → Nat → Bool) : List Nat → List Nat → Prop
  | nil : Sched pr [] []
  | cons (l1 l2 s : List Nat) (i : Nat) : (∀ j ∈ l1, pr i j = false) → Sched pr (l1 ++ l2) s → Sched pr (l1 ++ i :: l2) (i :: s)

theorem sched_tr {cx : Cx u R} (ho : OrcsME cx.o) {ops : Array Oper} {A : Nat → Did u} {pr : Nat → Nat → Bool} {n : Nat} (hpr : ∀ i j, i < n → j < i → pr i j = true ∨ (indep ops j i = true ∧ conf (A j).e (A i).e = true)) {σ' : St u} :
    ∀ {l s : List Nat}, Sched pr l s → l.Pairwise (· < ·) → (∀ i ∈ l, i < n) → ∀ {σ : St u}, Tr cx ops A l σ σ' → Tr cx ops A s σ σ' := by
  intro l s hs
  induction hs with
  | nil => intro _ _ σ h; exact h
  | cons l1 l2 s i hl hs ih =>
    intro hp hn σ h
    have hlt : ∀ j ∈ l1, j < i := fun j hj => (List.pairwise_append.1 hp).2.2 j hj i (.head _)
    have hi := hn i (by simp)
    obtain ⟨d, h2⟩ := bubbleD ho (fun j hj => by
      rcases hpr i j hi (hlt j hj) with h | h
      · rw [hl j hj] at h; cases h
      · exact h) h
    have hp' : (l1 ++ l2).Pairwise (· < ·) := by
      rw [List.pairwise_append] at hp ⊢
      refine ⟨hp.1, (List.pairwise_cons.1 hp.2.1).2, fun a ha b hb => hp.2.2 a ha b (.tail _ hb)⟩
    exact ⟨d, ih hp' (fun k hk => hn k (by
      rw [List.mem_append] at hk ⊢
      rcases hk with hk | hk
      · exact .inl hk
      · exact .inr (.tail _ hk))) h2⟩
/-- Operations one behind the other, the names of what they make told. -/
def execIxD (cx : Cx u R) (ops : Array Oper) (dks : Nat → Nat) : List Nat → St u → (St u → Option R) → Option R
  | [], σ, K => K σ
  | i :: r, σ, K => match nthO ops.toList i with
    | some o => gOp ops o σ (fun σ => opKd cx (dks i) o σ fun σ' => execIxD cx ops dks r σ' K) (fun σ => execIxD cx ops dks r (σ.put o.dst .und) K)
    | none => execIxD cx ops dks r σ K
theorem tr_exec {cx : Cx u R} {ops : Array Oper} {A : Nat → Did u} {σ' : St u} {K : St u → Option R} {z : R} (hK : K σ' = some z) : ∀ {s : List Nat} {σ : St u}, Tr cx ops A s σ σ' → execIxD cx ops (fun i => (A i).dk) s σ K = some z
  | [], σ, h => by
    have h : σ = σ' := h
    subst h
    exact hK
  | i :: s, σ, h => by
    obtain ⟨d, h⟩ := h
    simp only [execIxD, d.at_]
    exact does_plain d (tr_exec hK h)

theorem logOk_get {m : Nat} {e : LE} : ∀ {log : List LE}, logOk m e log = true → ∀ x ∈ log, m.testBit x.i = true ∨ conf x e = true
  | [], _, x, h => by cases h
  | y :: r, h, x, hx => by
    simp only [logOk, Bool.and_eq_true, Bool.or_eq_true] at h
    cases hx with
    | head => exact h.1
    | tail _ hx => exact logOk_get h.2 x hx
theorem conf_skipped (x : LE) (i : Nat) : conf x (skipped i) = true := by
  simp [conf, skipped, disj]
  cases x.ks with
  | nil => simp [disj]
  | cons a r =>
    right
    have : ∀ l : List Nat, disj [] l = true := by
      intro l
      induction l with
      | nil => rfl
      | cons a l ih => simp [disj, memN, ih]
    exact this _

/-- What the order of the text does, op by op. -/
theorem execDy_tr {cx : Cx u R} (ho : OrcsME cx.o) {ops : Array Oper} {ms : List Nat} {K : St u → Option R} {z : R} : ∀ (k i : Nat) {log : List LE} {σ : St u}, execDy cx ops ms (List.range' i k) log σ K = some z → (∀ x ∈ log, x.i < i) →
    ∃ (A : Nat → Did u) (σ' : St u), Tr cx ops A (List.range' i k) σ σ' ∧ K σ' = some z ∧ (∀ j, i ≤ j → j < i + k → (A j).e.i = j) ∧ (∀ j, i ≤ j → j < i + k → ∀ x ∈ log, (nthM ms j).testBit x.i = true ∨ conf x (A j).e = true) ∧
      ∀ j j', i ≤ j' → j' < j → j < i + k → (nthM ms j).testBit j' = true ∨ conf (A j').e (A j).e = true
  | 0, i, log, σ, h, hl => ⟨fun _ => ⟨default, .dead, [], skipped 0, 0⟩, σ, rfl, h, fun j h1 h2 => by omega, fun j h1 h2 => by omega, fun j j' h1 h2 h3 => by omega⟩
  | k + 1, i, log, σ, h, hl => by
    rw [List.range'_succ] at h
    simp only [execDy] at h
    obtain ⟨d, hd, hdi, h1, hlog⟩ := does_of ho h
    obtain ⟨A, σ', g1, g2, g3, g4, g5⟩ := execDy_tr ho k (i + 1) h1 (fun x hx => by
      cases hx with
      | head => omega
      | tail _ hx => have := hl x hx; omega)
    have hne : ∀ j, i + 1 ≤ j → (fun j => if j = i then d else A j) j = A j := fun j hj => if_neg (by omega)
    have hA : ∀ (l : List Nat), (∀ j ∈ l, i + 1 ≤ j) → ∀ σ, Tr cx ops A l σ σ' → Tr cx ops (fun j => if j = i then d else A j) l σ σ' := by
      intro l
      induction l with
      | nil => intro _ σ h; exact h
      | cons j l ih =>
        intro hl σ h
        have e := hne j (hl j (.head _))
        obtain ⟨a, b⟩ := h
        refine ⟨e ▸ a, ?_⟩
        rw [e]
        exact ih (fun k hk => hl k (.tail _ hk)) _ b
    have hi : (fun j => if j = i then d else A j) i = d := if_pos rfl
    have hcf : ∀ x ∈ log, (nthM ms i).testBit x.i = true ∨ conf x d.e = true := by
      intro x hx
      rcases hlog with hlog | hlog
      · exact logOk_get hlog x hx
      · rw [hlog]; exact .inr (conf_skipped x i)
    refine ⟨fun j => if j = i then d else A j, σ', ?_, g2, fun j h1 h2 => ?_, fun j h1 h2 x hx => ?_, fun j j' h1 h2 h3 => ?_⟩
    · rw [List.range'_succ]
      refine ⟨by simpa using hd, ?_⟩
      rw [hi]
      exact hA _ (fun j hj => by rw [List.mem_range'] at hj; obtain ⟨q, _, e⟩ := hj; omega) _ g1
    · by_cases e : j = i
      · subst e; simpa using hdi
      · simp only [if_neg e]
        exact g3 j (by omega) (by omega)
    · by_cases e : j = i
      · subst e; simpa using hcf x hx
      · simp only [if_neg e]
        exact g4 j (by omega) (by omega) x (.tail _ hx)
    · have e : j ≠ i := by omega
      simp only [if_neg e]
      by_cases e' : j' = i
      · subst e'
        simp only [if_pos]
        have := g4 j (by omega) (by omega) d.e (.head _)
        rwa [hdi] at this
      · simp only [if_neg e']
        exact g5 j j' (by omega) h2 (by omega)
end

/-! ### The program's orders -/
theorem bindsAll_ok {e : Edge} (h : bindsAll e = true) (m : Region.Mode) : Region.binds m e = true := by
  unfold bindsAll at h
  unfold Region.binds
  split at h <;> simp_all
theorem maskOf_bit {ms : List Nat} {j : Nat} : ∀ {es : List Edge}, (maskOf ms es).testBit j = true → ∃ e ∈ es, bindsAll e = true ∧ (e.on = j ∨ (nthM ms e.on).testBit j = true)
  | [], h => by simp [maskOf] at h
  | e :: r, h => by
    simp only [maskOf] at h
    cases hb : bindsAll e with
    | false =>
      rw [hb] at h
      obtain ⟨e', h1, h2⟩ := maskOf_bit h
      exact ⟨e', .tail _ h1, h2⟩
    | true =>
      rw [hb, cond_true, Nat.testBit_or, Nat.testBit_or, Bool.or_eq_true, Bool.or_eq_true] at h
      rcases h with (h | h) | h
      · refine ⟨e, .head _, hb, .inl ?_⟩
        rw [Nat.one_shiftLeft, Nat.testBit_two_pow] at h
        simpa using h
      · exact ⟨e, .head _, hb, .inr h⟩
      · obtain ⟨e', h1, h2⟩ := maskOf_bit h
        exact ⟨e', .tail _ h1, h2⟩
def edgesBelow (i : Nat) : List Edge → Bool
  | [] => true
  | e :: r => (!(bindsAll e) || ltN e.on i) && edgesBelow i r
def masksOk (ms : List Nat) : Nat → List Oper → Bool
  | _, [] => true
  | i, o :: r => edgesBelow i o.after.toList && (Nat.beq (nthM ms i ||| maskOf ms o.after.toList) (maskOf ms o.after.toList) && masksOk ms (i + 1) r)
def pairsAt (ops : Array Oper) (m i : Nat) : Nat → Bool
  | 0 => true
  | j + 1 => (m.testBit j || indep ops j i) && pairsAt ops m i j
def pairsOk (ops : Array Oper) (ms : List Nat) : Nat → Bool
  | 0 => true
  | i + 1 => pairsAt ops (nthM ms i) i i && pairsOk ops ms i
/-- A rank for every operation, above those that come ahead of it. -/
def allBelow : Nat → List Oper → Bool
  | _, [] => true
  | i, o :: r => o.after.toList.all (fun e => ltN e.on i) && allBelow (i + 1) r
def rkE (m : Region.Mode) (rk : List Nat) : List Edge → Nat
  | [] => 0
  | e :: r => bif Region.binds m e then Nat.max (nthM rk e.on + 1) (rkE m rk r) else rkE m rk r
def relax (m : Region.Mode) (ops : List Oper) : Nat → List Nat → List Nat
  | 0, rk => rk
  | n + 1, rk => relax m ops n (ops.map fun o => rkE m rk o.after.toList)
def zeros : Nat → List Nat
  | 0 => []
  | n + 1 => 0 :: zeros n
def rkOf (m : Region.Mode) (ops : List Oper) : List Nat := bif allBelow 0 ops then upTo 0 ops.length else relax m ops ops.length (zeros ops.length)
def rankE (m : Region.Mode) (rk : List Nat) (n i : Nat) : List Edge → Bool
  | [] => true
  | e :: r => (!(Region.binds m e) || (ltN (nthM rk e.on) (nthM rk i) && ltN e.on n)) && rankE m rk n i r
def rankOk (m : Region.Mode) (rk : List Nat) (n : Nat) : Nat → List Oper → Bool
  | _, [] => true
  | i, o :: r => rankE m rk n i o.after.toList && rankOk m rk n (i + 1) r
def ranks (ops : Array Oper) : Bool := rankOk .text (rkOf .text ops.toList) ops.toList.length 0 ops.toList && (rankOk .gc (rkOf .gc ops.toList) ops.toList.length 0 ops.toList && rankOk .any (rkOf .text ops.toList) ops.toList.length 0 ops.toList)
def drawOk (ops : Array Oper) (ms : List Nat) : Bool := (masksOk ms 0 ops.toList && ranks ops) && pairsOk ops ms ops.toList.length
theorem rankE_ok {m : Region.Mode} {rk : List Nat} {n i : Nat} : ∀ {es : List Edge}, rankE m rk n i es = true → ∀ e ∈ es, Region.binds m e = true → nthM rk e.on < nthM rk i ∧ e.on < n
  | [], _, e, h, _ => by cases h
  | x :: r, h, e, he, hb => by
    simp only [rankE, Bool.and_eq_true, Bool.or_eq_true] at h
    cases he with
    | head =>
      rcases h.1 with h1 | h1
      · rw [hb] at h1; cases h1
      · exact ⟨Nat.le_of_ble_eq_true h1.1, Nat.le_of_ble_eq_true h1.2⟩
    | tail _ he => exact rankE_ok h.2 e he hb
theorem rankOk_ok {m : Region.Mode} {rk : List Nat} {n : Nat} : ∀ {l : List Oper} {i : Nat}, rankOk m rk n i l = true → ∀ (k : Nat) (o : Oper), l[k]? = some o → ∀ e ∈ o.after.toList, Region.binds m e = true → nthM rk e.on < nthM rk (i + k) ∧ e.on < n
  | [], _, _, k, o, h => by simp at h
  | x :: r, i, h, k, o, hk => by
    simp only [rankOk, Bool.and_eq_true] at h
    cases k with
    | zero =>
      simp at hk
      subst hk
      exact rankE_ok h.1
    | succ k =>
      have := rankOk_ok h.2 k o (by simpa using hk)
      rw [show i + 1 + k = i + (k + 1) by omega] at this
      exact this
theorem exists_least (f : Nat → Nat) : ∀ {l : List Nat}, l ≠ [] → ∃ x ∈ l, ∀ y ∈ l, f x ≤ f y
  | [], h => absurd rfl h
  | [a], _ => ⟨a, .head _, fun y hy => by cases hy with | head => exact Nat.le_refl _ | tail _ h => cases h⟩
  | a :: b :: r, _ => by
    obtain ⟨x, hx, hm⟩ := exists_least f (l := b :: r) (by simp)
    by_cases h : f a ≤ f x
    · exact ⟨a, .head _, fun y hy => by
        cases hy with
        | head => exact Nat.le_refl _
        | tail _ hy => exact Nat.le_trans h (hm y hy)⟩
    · exact ⟨x, .tail _ hx, fun y hy => by
        cases hy with
        | head => omega
        | tail _ hy => exact hm y hy⟩

theorem edgesBelow_ok {i : Nat} : ∀ {es : List Edge}, edgesBelow i es = true → ∀ e ∈ es, bindsAll e = true → e.on < i
  | [], _, e, h, _ => by cases h
  | x :: r, h, e, he, hb => by
    simp only [edgesBelow, Bool.and_eq_true, Bool.or_eq_true] at h
    cases he with
    | head =>
      rcases h.1 with h1 | h1
      · rw [hb] at h1; cases h1
      · exact Nat.le_of_ble_eq_true h1
    | tail _ he => exact edgesBelow_ok h.2 e he hb
theorem masksOk_ok {ms : List Nat} : ∀ {l : List Oper} {i : Nat}, masksOk ms i l = true → ∀ (k : Nat) (o : Oper), l[k]? = some o → (∀ e ∈ o.after.toList, bindsAll e = true → e.on < i + k) ∧ ∀ j, (nthM ms (i + k)).testBit j = true → ∃ e ∈ o.after.toList, bindsAll e = true ∧ (e.on = j ∨ (nthM ms e.on).testBit j = true)
  | [], _, _, k, o, h => by simp at h
  | x :: r, i, h, k, o, hk => by
    simp only [masksOk, Bool.and_eq_true] at h
    cases k with
    | zero =>
      simp at hk
      subst hk
      refine ⟨edgesBelow_ok h.1, fun j hj => maskOf_bit ?_⟩
      have e := Nat.eq_of_beq_eq_true h.2.1
      rw [← e, Nat.testBit_or, Bool.or_eq_true]
      exact .inl hj
    | succ k =>
      have := masksOk_ok h.2.2 k o (by simpa using hk)
      rw [show i + 1 + k = i + (k + 1) by omega] at this
      exact this
theorem pairsAt_ok {ops : Array Oper} {m i : Nat} : ∀ {n : Nat}, pairsAt ops m i n = true → ∀ j, j < n → m.testBit j = true ∨ indep ops j i = true
  | 0, _, j, hj => by omega
  | n + 1, h, j, hj => by
    simp only [pairsAt, Bool.and_eq_true, Bool.or_eq_true] at h
    by_cases e : j = n
    · subst e; exact h.1
    · exact pairsAt_ok h.2 j (by omega)
theorem pairsOk_ok {ops : Array Oper} {ms : List Nat} : ∀ {n : Nat}, pairsOk ops ms n = true → ∀ i j, i < n → j < i → (nthM ms i).testBit j = true ∨ indep ops j i = true
  | 0, _, i, j, hi, hj => by omega
  | n + 1, h, i, j, hi, hj => by
    simp only [pairsOk, Bool.and_eq_true] at h
    by_cases e : i = n
    · subst e; exact pairsAt_ok h.1 j hj
    · exact pairsOk_ok h.2 i j (by omega) hj
theorem filter_mid {p q : Nat → Bool} {l l1 l2 : List Nat} {i : Nat} (hl : l.Nodup) (hf : l.filter p = l1 ++ i :: l2) (hq : ∀ k ∈ l, q k = (p k && !(k == i))) : l.filter q = l1 ++ l2 := by
  have h1 : l.filter q = (l.filter p).filter (fun k => !(k == i)) := by
    rw [List.filter_filter]
    refine List.filter_congr fun k hk => ?_
    rw [hq k hk, Bool.and_comm]
  have hn : (l1 ++ i :: l2).Nodup := hf ▸ hl.filter _
  rw [h1, hf, List.filter_append, List.filter_cons]
  have hd : ∀ k ∈ l1 ++ l2, k ≠ i := by
    intro k hk e
    subst e
    rw [List.nodup_append] at hn
    rw [List.mem_append] at hk
    rcases hk with hk | hk
    · exact hn.2.2 k hk k (.head _) rfl
    · exact (List.nodup_cons.1 hn.2.1).1 hk
  have e1 : l1.filter (fun k => !(k == i)) = l1 := List.filter_eq_self.2 fun k hk => by simp [hd k (by simp [hk])]
  have e2 : l2.filter (fun k => !(k == i)) = l2 := List.filter_eq_self.2 fun k hk => by simp [hd k (by simp [hk])]
  rw [e1, e2]
  simp

theorem linearise_go {m : Region.Mode} {ops : Array Oper} {ms : List Nat} {rk : List Nat} (hm : masksOk ms 0 ops.toList = true) (hrk : ∀ (i : Nat) (o : Oper), ops.toList[i]? = some o → ∀ e ∈ o.after.toList, Region.binds m e = true → nthM rk e.on < nthM rk i ∧ e.on < ops.size) : ∀ (fuel t : Nat) (listed : Array Bool) (acc : List Nat), listed.size = ops.size →
    ((List.range ops.size).filter fun i => !listed.getD i true).length = fuel → (∀ i, i < ops.size → listed.getD i true = true → ∀ j, j < ops.size → (nthM ms i).testBit j = true → listed.getD j true = true) →
    ∃ s, Region.linearise.go m ops fuel t listed acc = acc.reverse ++ s ∧ Sched (fun i j => (nthM ms i).testBit j) ((List.range ops.size).filter fun i => !listed.getD i true) s
  | 0, t, listed, acc, hs, hf, hc => by
    refine ⟨[], by simp [Region.linearise.go], ?_⟩
    rw [List.length_eq_zero_iff.1 hf]
    exact .nil
  | fuel + 1, t, listed, acc, hs, hf, hc => by
    simp only [Region.linearise.go]
    generalize hrs : ((List.range ops.size).filter fun i => !listed.getD i true && ((ops[i]?).map (·.after.all fun e => !Region.binds m e || listed.getD e.on false)).getD false) = rs
    have hne : ((List.range ops.size).filter fun i => !listed.getD i true) ≠ [] := by
      intro h
      rw [h] at hf
      cases hf
    obtain ⟨i0, hi0m, hleast⟩ := exists_least (nthM rk) hne
    have hi0n : i0 < ops.size ∧ listed.getD i0 true = false := by simpa using hi0m
    have mk := masksOk_ok hm
    have hop : ∀ i (hi : i < ops.size), ops.toList[i]? = some ops[i] := fun i hi => by rw [Array.getElem?_toList]; exact Array.getElem?_eq_getElem hi
    have hready : i0 ∈ rs := by
      rw [← hrs, List.mem_filter]
      refine ⟨by simpa using hi0n.1, ?_⟩
      simp only [hi0n.2, Bool.not_false, Bool.true_and, Array.getElem?_eq_getElem hi0n.1, Option.map_some, Option.getD_some, Array.all_eq_true']
      intro e he
      cases hbm : Region.binds m e with
      | false => rfl
      | true =>
      obtain ⟨hlt, hon⟩ := hrk i0 _ (hop i0 hi0n.1) e (by simpa using he) hbm
      have hle : e.on < listed.size := by omega
      cases hv : listed.getD e.on true with
      | true =>
        have : listed.getD e.on false = true := by
          simp only [Array.getD_eq_getD_getElem?, Array.getElem?_eq_getElem hle, Option.getD_some] at hv ⊢
          exact hv
        simp [this]
      | false =>
        have hmem : e.on ∈ (List.range ops.size).filter fun i => !listed.getD i true := List.mem_filter.2 ⟨List.mem_range.2 hon, by rw [hv]; rfl⟩
        have := hleast _ hmem
        omega
    have hpos : 0 < rs.length := List.length_pos_of_mem hready
    obtain ⟨i, hi⟩ : ∃ i, rs[t % rs.length]? = some i := ⟨_, List.getElem?_eq_getElem (Nat.mod_lt _ hpos)⟩
    rw [hi]
    simp only
    have him : i ∈ rs := List.mem_of_getElem? hi
    rw [← hrs, List.mem_filter] at him
    have hin : i < ops.size := by simpa using him.1
    have him2 := him.2
    simp only [Array.getElem?_eq_getElem hin, Option.map_some, Option.getD_some, Bool.and_eq_true, Bool.not_eq_true', Array.all_eq_true'] at him2
    obtain ⟨hiu, hie⟩ := him2
    have hil : i < listed.size := by omega
    have himem : i ∈ (List.range ops.size).filter fun i => !listed.getD i true := List.mem_filter.2 ⟨List.mem_range.2 hin, by rw [hiu]; rfl⟩
    obtain ⟨l1, l2, hsplit⟩ := List.append_of_mem himem
    have hset : ∀ k, (listed.setIfInBounds i true).getD k true = (listed.getD k true || (k == i)) := by
      intro k
      by_cases e : k = i
      · subst e
        simp [Array.getD_eq_getD_getElem?, hil]
      · have e' : i ≠ k := fun h => e h.symm
        simp [Array.getD_eq_getD_getElem?, e', e]
    have hfil : ((List.range ops.size).filter fun k => !(listed.setIfInBounds i true).getD k true) = l1 ++ l2 := by
      refine filter_mid List.nodup_range hsplit fun k _ => ?_
      rw [hset, Bool.not_or]
    -- what comes ahead of the one that is ready is listed
    have hahead : ∀ j, j < ops.size → (nthM ms i).testBit j = true → listed.getD j true = true := by
      intro j hj hb
      obtain ⟨e, he, hba, hor⟩ := (mk i _ (hop i hin)).2 j (by rw [Nat.zero_add]; exact hb)
      have hlt := (mk i _ (hop i hin)).1 e he hba
      rw [Nat.zero_add] at hlt
      have hon : listed.getD e.on true = true := by
        have := hie e (by simpa using he)
        rw [bindsAll_ok hba m] at this
        have hle : e.on < listed.size := by omega
        simp only [Bool.not_true, Bool.false_or] at this
        simp only [Array.getD_eq_getD_getElem?, Array.getElem?_eq_getElem hle, Option.getD_some] at this ⊢
        exact this
      rcases hor with rfl | hor
      · exact hon
      · exact hc e.on (by omega) hon j hj hor
    obtain ⟨s, h1, h2⟩ := linearise_go hm hrk fuel (t / rs.length) (listed.setIfInBounds i true) (i :: acc) (by simp [hs]) (by
      rw [hfil]
      rw [hsplit] at hf
      simp only [List.length_append, List.length_cons] at hf ⊢
      omega) (fun k hk hkl j hj hb => by
      rw [hset] at hkl ⊢
      rw [Bool.or_eq_true] at hkl ⊢
      rcases hkl with hkl | hkl
      · exact .inl (hc k hk hkl j hj hb)
      · have : k = i := by simpa using hkl
        subst this
        exact .inl (hahead j hj hb))
    refine ⟨i :: s, by rw [h1]; simp, ?_⟩
    rw [hsplit]
    refine .cons l1 l2 s i (fun j hj => ?_) (hfil ▸ h2)
    cases hb : (nthM ms i).testBit j with
    | false => rfl
    | true =>
      have hjm : j ∈ (List.range ops.size).filter fun i => !listed.getD i true := by rw [hsplit]; simp [hj]
      have hj2 : j < ops.size ∧ listed.getD j true = false := by simpa using hjm
      rw [hahead j hj2.1 hb] at hj2
      cases hj2.2

theorem schedule_sched {ops : Array Oper} {ms : List Nat} (hm : masksOk ms 0 ops.toList = true) (hrk0 : ranks ops = true) (mixed : Bool) (t : Nat) : Sched (fun i j => (nthM ms i).testBit j) (List.range ops.size) (Region.schedule mixed ops t) := by
  have key : ∀ m t, Sched (fun i j => (nthM ms i).testBit j) (List.range ops.size) (Region.linearise m ops t) := by
    intro m t
    have hr : ∀ i, i < ops.size → (Array.replicate ops.size false).getD i true = false := fun i hi => by simp [Array.getD_eq_getD_getElem?, hi]
    have hf : ((List.range ops.size).filter fun i => !(Array.replicate ops.size false).getD i true) = List.range ops.size := List.filter_eq_self.2 fun i hi => by rw [hr i (by simpa using hi)]; rfl
    have hrk : ∃ rk : List Nat, ∀ (i : Nat) (o : Oper), ops.toList[i]? = some o → ∀ e ∈ o.after.toList, Region.binds m e = true → nthM rk e.on < nthM rk i ∧ e.on < ops.size := by
      unfold ranks at hrk0
      rw [Bool.and_eq_true, Bool.and_eq_true] at hrk0
      have fin : ∀ {rk : List Nat}, rankOk m rk ops.toList.length 0 ops.toList = true → ∀ (i : Nat) (o : Oper), ops.toList[i]? = some o → ∀ e ∈ o.after.toList, Region.binds m e = true → nthM rk e.on < nthM rk i ∧ e.on < ops.size := by
        intro rk h i o ho e he hb
        have := rankOk_ok h i o ho e he hb
        rw [Nat.zero_add] at this
        exact this
      cases m with
      | text => exact ⟨_, fin hrk0.1⟩
      | gc => exact ⟨_, fin hrk0.2.1⟩
      | any => exact ⟨_, fin hrk0.2.2⟩
    obtain ⟨rk, hrk⟩ := hrk
    obtain ⟨s, h1, h2⟩ := linearise_go (m := m) hm hrk ops.size t (Array.replicate ops.size false) [] (by simp) (by rw [hf]; simp) (fun i hi h => by rw [hr i hi] at h; cases h)
    unfold Region.linearise
    rw [h1, hf] at *
    simpa using h2
  unfold Region.schedule
  split
  · exact key _ _
  · exact key _ _
end Go.Proofs.YtmppaodhihnejaaGreat.M
