/- Regions that draw their order: the proof. -/
import Derived.Test.YtkgghgigjeihjaaGreatS16
namespace Go.Proofs.YtkgghgigjeihjaaGreat.Sim
set_option linter.unusedVariables false
set_option linter.unusedSimpArgs false

def lst? (listed : Array Bool) (j : Nat) : Bool := listed.getD j false
theorem lst_set {listed : Array Bool} {i j : Nat} (hi : i < listed.size) : lst? (listed.setIfInBounds i true) j = (decide (j = i) || lst? listed j) := by
  unfold lst?
  by_cases h : i = j
  · subst h; simp [hi]
  · rw [getD_set_ne false h]
    have : j ≠ i := fun e => h e.symm
    simp [this]
theorem filt_lt (p p' : Nat → Bool) : ∀ (l : List Nat) (i : Nat), i ∈ l → (∀ x ∈ l, p' x = true → p x = true) → p i = true → p' i = false → (l.filter p').length < (l.filter p).length
  | [], i, h, _, _, _ => by simp at h
  | x :: r, i, h, hs, h1, h2 => by
    have hle : (r.filter p').length ≤ (r.filter p).length := by
      clear h h1 h2
      induction r with
      | nil => simp
      | cons y q ih =>
        have ih := ih (fun z hz => hs z (by simp only [List.mem_cons] at hz ⊢; rcases hz with rfl | hz <;> simp_all))
        simp only [List.filter_cons]
        have := hs y (by simp)
        cases hp' : p' y
        · cases hp : p y <;> simp <;> omega
        · rw [this hp']; simp; omega
    rcases List.mem_cons.1 h with rfl | h
    · simp only [List.filter_cons, h1, h2]
      simp; omega
    · have ih := filt_lt p p' r i h (fun z hz => hs z (by simp [hz])) h1 h2
      simp only [List.filter_cons]
      have := hs x (by simp)
      cases hp' : p' x
      · cases hp : p x <;> simp <;> omega
      · rw [this hp']; simp; omega

section
variable {P : Program} {Γ : Ctx} {call : CallF} {ops : List Oper} {an : List Nat} {D : Nat → DSt} {V : Nat → AV}

/-- Where such a region stands, in whatever order it has gone so far. -/
structure DI (ops : List Oper) (an : List Nat) (D : Nat → DSt) (V : Nat → AV) (H0 : AH) (s0 : CS) (d0 : List Deferred) (listed : Array Bool) (q q' : Nat) (t : List AV) (a : Act) (s : CS) : Prop where
  size : listed.size = ops.length
  dc : ∀ i o e, lst? listed i = true → ops[i]? = some o → e ∈ o.after → Region.binds .any e = true → lst? listed e.on = true
  qq : q ≤ q'
  qn : q' ≤ ops.length
  wS : ∀ j, Wp ops an D j → (lst? listed j = true ↔ j < q)
  noW : ∀ j, q ≤ j → j < q' → ¬ Wp ops an D j
  nextW : q' = ops.length ∨ Wp ops an D q'
  prevW : q = 0 ∨ (0 < q ∧ Wp ops an D (q - 1))
  ds0 : (D q).ds = []
  live : ∀ k B, (D q).base k = some B → k < (D q).c
  lr : LR s t a.tmps.toList
  len : t.length = (D 0).t.length
  agree : ∀ x, Val ops V (D 0).t (fun m => lst? listed m = true) x t[x]?
  defs : a.defers = d0
  step : Step H0 s0 ⟨(D ops.length).c, H0.floor, visB (lst? listed) (D q').base (D q').ds⟩ s
  fresh : ∀ j, j < ops.length → lst? listed j = false → Fresh s (D j).c (D (j + 1)).c

theorem next_W (ops : List Oper) (an : List Nat) (D : Nat → DSt) (q : Nat) (hq : q ≤ ops.length) : ∃ q', q ≤ q' ∧ q' ≤ ops.length ∧ (∀ j, q ≤ j → j < q' → ¬ Wp ops an D j) ∧ (q' = ops.length ∨ Wp ops an D q') := by
  have key : ∀ m q, ops.length - q = m → q ≤ ops.length → ∃ q', q ≤ q' ∧ q' ≤ ops.length ∧ (∀ j, q ≤ j → j < q' → ¬ Wp ops an D j) ∧ (q' = ops.length ∨ Wp ops an D q') := by
    intro m
    induction m with
    | zero => intro q h1 h2; exact ⟨q, Nat.le_refl _, h2, fun j h3 h4 => by omega, .inl (by omega)⟩
    | succ m ih =>
      intro q h1 h2
      by_cases hW : Wp ops an D q
      · exact ⟨q, Nat.le_refl _, h2, fun j h3 h4 => by omega, .inr hW⟩
      · obtain ⟨q', a1, a2, a3, a4⟩ := ih (q + 1) (by omega) (by omega)
        exact ⟨q', by omega, a2, fun j h3 h4 => by
          by_cases hj : j = q
          · subst hj; exact hW
          · exact a3 j (by omega) h4, a4⟩
  exact key _ q rfl hq

theorem anc_listed {listed : Array Bool} (dc : ∀ i o e, lst? listed i = true → ops[i]? = some o → e ∈ o.after → Region.binds .any e = true → lst? listed e.on = true) {i j : Nat} (h : Anc ops i j) :
    ∀ o, ops[i]? = some o → (∀ e ∈ o.after, Region.binds .any e = true → lst? listed e.on = true) → lst? listed j = true := by
  induction h with
  | edge i o e ho he hb => intro o' ho' hall; rw [ho] at ho'; cases ho'; exact hall e he hb
  | trans i o e j ho he hb h ih =>
    intro o' ho' hall
    rw [ho] at ho'; cases ho'
    have hl := hall e he hb
    cases hoo : ops[e.on]? with
    | none =>
      cases h with
      | edge _ o2 e2 ho2 _ _ => rw [hoo] at ho2; cases ho2
      | trans _ o2 e2 _ ho2 _ _ _ => rw [hoo] at ho2; cases ho2
    | some o2 => exact ih o2 hoo fun e2 h1 h2 => dc _ o2 e2 hl hoo h1 h2

theorem draw_main (hΓ : Γ.Ok P) (hc : CallOK P Γ call) {H0 : AH} (T : Trace Γ call ops an H0.floor D V) (hD0 : (D 0).c = H0.nxt) (hfln : H0.floor ≤ H0.nxt) (hRc : (D ops.length).c ≤ H0.nxt + Zb) {s0 : CS} (hdz : Dom s0 (H0.nxt + Zb)) {d0 : List Deferred} (Q : Exit → Act → World → Prop)
    (hQ : ∀ t a s, LR s t a.tmps.toList → t = (D ops.length).t → a.defers = d0 → Step H0 s0 ⟨(D ops.length).c, H0.floor, visB (fun _ => true) (D ops.length).base (D ops.length).ds⟩ s → Q .normal a s.w) :
    ∀ (fuel : Nat) (listed : Array Bool) (q q' : Nat) (t : List AV) (a : Act) (s : CS), DI ops an D V H0 s0 d0 listed q q' t a s → ((List.range ops.length).filter fun i => !lst? listed i).length ≤ fuel → wpAny P .any ops.toArray Q fuel listed a s.w := by
  -- when nothing is ready all has been done
  have fin : ∀ (listed : Array Bool) (q q' : Nat) (t : List AV) (a : Act) (s : CS), DI ops an D V H0 s0 d0 listed q q' t a s → (∀ i, i < ops.length → lst? listed i = true) → Q .normal a s.w := by
    intro listed q q' t a s I hall
    have hq' : q' = ops.length := by
      rcases I.nextW with h | h
      · exact h
      · obtain ⟨o, ho, hrest⟩ := h
        have h1 := (I.wS q' ⟨o, ho, hrest⟩).1 (hall q' (List.getElem?_eq_some_iff.1 ho).1)
        have := I.qq; omega
    refine hQ t a s I.lr ?_ I.defs ?_
    · obtain ⟨h1, h2⟩ := T.text ops.length (Nat.le_refl _)
      apply List.ext_getElem?
      intro x
      refine (I.agree x).same (h2 x) fun m o ho _ => ?_
      have := (List.getElem?_eq_some_iff.1 ho).1
      exact ⟨fun _ => this, fun _ => hall m this⟩
    · have st := I.step
      rw [hq'] at st
      have e : visB (lst? listed) (D ops.length).base (D ops.length).ds = visB (fun _ => true) (D ops.length).base (D ops.length).ds := by
        funext k
        refine visB_congr (fun d hd => ?_) k
        obtain ⟨_, new, hn, hall2⟩ := T.grow (i := q) (j := ops.length) (by have := I.qq; have := I.qn; omega) (Nat.le_refl _) (fun m h1 h2 => I.noW m h1 (by omega))
        rw [hn, I.ds0, List.append_nil] at hd
        obtain ⟨_, _, _, _, _, _, _, o, ho, _⟩ := hall2 d hd
        exact hall _ (List.getElem?_eq_some_iff.1 ho).1
      rw [e] at st; exact st
  have ready_nil : ∀ (listed : Array Bool), listed.size = ops.length → Region.ready .any ops.toArray listed = [] → ∀ i, i < ops.length → lst? listed i = true := by
    intro listed hsz hr i
    induction i using Nat.strongRecOn with
    | _ i ih =>
      intro hi
      cases hl : lst? listed i with
      | true => rfl
      | false =>
        exfalso
        have ho : ops[i]? = some ops[i] := List.getElem?_eq_getElem hi
        have hmem : i ∈ Region.ready .any ops.toArray listed := by
          rw [mem_ready]
          refine ⟨?_, ops[i], by simp, fun e he hb => ?_⟩
          · unfold lst? at hl
            have : i < listed.size := by omega
            simp only [Array.getD_eq_getD_getElem?, Array.getElem?_eq_getElem this, Option.getD_some] at hl ⊢
            exact hl
          · have hlt := T.edge_lt ho he hb
            exact ih e.on hlt (by omega)
        rw [hr] at hmem; cases hmem
  intro fuel
  induction fuel with
  | zero =>
    intro listed q q' t a s I hcount
    have hall : ∀ i, i < ops.length → lst? listed i = true := fun i hi => by
      cases hl : lst? listed i with
      | true => rfl
      | false =>
        have : i ∈ (List.range ops.length).filter fun i => !lst? listed i := by simp [hi, hl]
        have := List.length_pos_of_mem this
        omega
    refine ⟨?_, fin listed q q' t a s I hall⟩
    cases hr : Region.ready .any ops.toArray listed with
    | nil => rfl
    | cons x r =>
      have hx : x ∈ Region.ready .any ops.toArray listed := by rw [hr]; simp
      rw [mem_ready] at hx
      obtain ⟨h0, o, ho, _⟩ := hx
      have hlt : x < ops.length := by
        have := (Array.getElem?_eq_some_iff.1 ho).1; simpa using this
      have h1 := hall x hlt
      unfold lst? at h1
      have : x < listed.size := by rw [I.size]; exact hlt
      simp only [Array.getD_eq_getD_getElem?, Array.getElem?_eq_getElem this, Option.getD_some] at h0 h1
      rw [h0] at h1; cases h1
  | succ fuel ih =>
    intro listed q q' t a s I hcount
    refine ⟨fun hr => fin listed q q' t a s I (ready_nil listed I.size hr), fun i hi => ?_⟩
    rw [mem_ready] at hi
    obtain ⟨h0, o, ho', hedge⟩ := hi
    have ho : ops[i]? = some o := by simpa using ho'
    have hil : i < ops.length := (List.getElem?_eq_some_iff.1 ho).1
    have hisz : i < listed.size := by rw [I.size]; exact hil
    have hnl : lst? listed i = false := by
      unfold lst?
      simp only [Array.getD_eq_getD_getElem?, Array.getElem?_eq_getElem hisz, Option.getD_some] at h0 ⊢
      exact h0
    have hedge' : ∀ e ∈ o.after, Region.binds .any e = true → lst? listed e.on = true := hedge
    have ancS : ∀ j, before? an i j = true → lst? listed j = true := fun j hj => anc_listed I.dc (T.anc hj) o ho hedge'
    have ancT : ∀ j, before? an j i = true → lst? listed j = false := fun j hj => by
      cases hl : lst? listed j with
      | false => rfl
      | true =>
        have hA := T.anc hj
        have hoj : ∃ oj, ops[j]? = some oj := by
          cases hA with
          | edge _ o2 e2 ho2 _ _ => exact ⟨o2, ho2⟩
          | trans _ o2 e2 _ ho2 _ _ _ => exact ⟨o2, ho2⟩
        obtain ⟨oj, hoj⟩ := hoj
        have := anc_listed I.dc hA oj hoj fun e h1 h2 => I.dc j oj e hl hoj h1 h2
        rw [hnl] at this; cases this
    have hset : ∀ j, lst? (listed.setIfInBounds i true) j = (decide (j = i) || lst? listed j) := fun j => lst_set hisz
    -- what the operation looks at is what it was in the text's order
    have hlook : ∀ x ∈ o.looksAt ops.toArray, t[x]? = (D i).t[x]? := fun x hx => by
      refine (I.agree x).same ((T.text i (by omega)).2 x) fun m om hom hdm => ?_
      by_cases hmi : m = i
      · subst hmi; rw [hnl]; simp
      · by_cases hlt : m < i
        · refine ⟨fun _ => hlt, fun _ => ?_⟩
          cases hb : before? an i m with
          | true => exact ancS m hb
          | false => exact absurd hx ((Oper.apart_spec (T.conflict hlt hom ho hb)).1 x hdm)
        · refine ⟨fun h => ?_, fun h => by omega⟩
          cases hb : before? an m i with
          | true => rw [ancT m hb] at h; cases h
          | false => exact absurd hx ((Oper.apart_spec (T.conflict (by omega : i < m) ho hom hb)).2.2 x hdm)
    have hwant : Region.wanted o (yielded ops.toArray a.tmps) = wantedA ops.toArray (D i).t o := by
      rw [wanted_eq I.lr, wantedA_congr hlook]
    have hops : ∀ x ∈ o.op.operands.toList, ∀ k, x = .tmp k → t[k]? = (D i).t[k]? := fun x hx k hk => hlook k (looks hx hk)
    have hdef : ∀ c, (a.put o.dst c).defers = a.defers := fun c => by cases o.dst <;> rfl
    -- the temporaries behind it
    have hagree : ∀ x, Val ops V (D 0).t (fun m => lst? (listed.setIfInBounds i true) m = true) x (putA t o.dst (V i))[x]? := fun x => by
      have h := Val.put (V := V) ho I.len I.agree (fun m om y hom hdm hdi hS => by
        rcases Nat.lt_trichotomy m i with h | h | h
        · exact h
        · subst h; rw [hnl] at hS; cases hS
        · cases hb : before? an m i with
          | true => rw [ancT m hb] at hS; cases hS
          | false => exact absurd hdm ((Oper.apart_spec (T.conflict h ho hom hb)).2.1 y hdi)) x
      have e : (fun m => lst? (listed.setIfInBounds i true) m = true) = fun m => lst? listed m = true ∨ m = i := by
        funext m
        rw [hset m]
        simp only [Bool.or_eq_true, decide_eq_true_eq, eq_iff_iff]
        exact ⟨fun h => h.symm, fun h => h.symm⟩
      rw [e]; exact h
    have hcount' : ((List.range ops.length).filter fun j => !lst? (listed.setIfInBounds i true) j).length ≤ fuel := by
      have := filt_lt (fun j => !lst? listed j) (fun j => !lst? (listed.setIfInBounds i true) j) (List.range ops.length) i (by simpa using hil) (fun x _ h => by
        simp only [hset, Bool.not_or, Bool.and_eq_true] at h; exact h.2) (by simp [hnl]) (by simp [hset])
      omega
    have hdc' : ∀ k ok e, lst? (listed.setIfInBounds i true) k = true → ops[k]? = some ok → e ∈ ok.after → Region.binds .any e = true → lst? (listed.setIfInBounds i true) e.on = true := fun k ok e h1 h2 h3 h4 => by
      rw [hset] at h1 ⊢
      simp only [Bool.or_eq_true, decide_eq_true_eq] at h1 ⊢
      rcases h1 with rfl | h1
      · rw [ho] at h2; cases h2; exact .inr (hedge' e h3 h4)
      · exact .inr (I.dc k ok e h1 h2 h3 h4)
    have hcm : ∀ j k, j ≤ k → k ≤ ops.length → (D j).c ≤ (D k).c := fun j k h1 h2 => T.c_mono h1 h2
    obtain ⟨hbase, new, hnew, hgrow⟩ := T.grow (i := q) (j := q') I.qq I.qn I.noW
    rw [I.ds0, List.append_nil] at hnew
    -- a step that leaves the told memory as it is
    have stay : (lst? listed i = false) → (D (i + 1)).c = (D i).c → ∀ (c : Value) (s' : CS), ¬ Wp ops an D i → (∀ v c, VR s v c → VR s' v c) → VR s' (V i) c → (∀ id, s'.ρ id = s.ρ id) →
        Step H0 s0 ⟨(D ops.length).c, H0.floor, visB (lst? listed) (D q').base (D q').ds⟩ s' → wpAny P .any ops.toArray Q fuel (listed.setIfInBounds i true) (a.put o.dst c) s'.w := by
      intro _ hci c s' hnW hv hvi hro hst
      have hvis : visB (lst? (listed.setIfInBounds i true)) (D q').base (D q').ds = visB (lst? listed) (D q').base (D q').ds := by
        funext k
        refine visB_congr (fun d hd => ?_) k
        rw [hnew] at hd
        obtain ⟨_, _, _, _, e1, e2, e3, _⟩ := hgrow d hd
        rw [hset]
        have : d.j ≠ i := by rintro h; rw [h] at e1 e2; omega
        simp [this]
      refine ih _ q q' (putA t o.dst (V i)) _ s' ⟨by simp [I.size], hdc', I.qq, I.qn, fun j hj => ?_, I.noW, I.nextW, I.prevW, I.ds0, I.live, put_lr (I.lr.mono hv) o.dst hvi, by rw [putA_len]; exact I.len, hagree, by rw [hdef]; exact I.defs, by rw [hvis]; exact hst, fun j hj hl id h1 h2 => ?_⟩ hcount'
      · rw [hset]
        have : j ≠ i := by rintro rfl; exact hnW hj
        simp only [this, decide_false, Bool.false_or]
        exact I.wS j hj
      · rw [hset] at hl
        simp only [Bool.or_eq_false_iff] at hl
        rw [hro id]; exact I.fresh j hj hl.2 id h1 h2
    have inside : barrier ops an i = false → freeOp o.op = false → q ≤ i ∧ i < q' := fun hb hf => by
      constructor
      · rcases I.prevW with h | ⟨hpos, hW⟩
        · omega
        · rcases Nat.lt_or_ge i q with hlt | hge
          · exfalso
            have hne : i ≠ q - 1 := by
              intro h
              obtain ⟨o2, g1, _, _, g4⟩ := hW
              rw [← h, hb] at g4; cases g4
            have h1 := (I.wS (q - 1) hW).2 (by omega)
            obtain ⟨o2, g1, _, _, g4⟩ := hW
            have hord := barrier_spec g4 ho hf hne
            unfold ordered at hord
            rw [if_neg (by omega)] at hord
            rw [ancT _ hord] at h1; cases h1
          · exact hge
      · rcases I.nextW with h | hW
        · omega
        · rcases Nat.lt_or_ge i q' with hlt | hge
          · exact hlt
          · exfalso
            have hne : i ≠ q' := by
              intro h
              obtain ⟨o2, g1, _, _, g4⟩ := hW
              rw [← h, hb] at g4; cases g4
            have hW' := hW
            obtain ⟨o2, g1, _, _, g4⟩ := hW
            have hord := barrier_spec g4 ho hf hne
            unfold ordered at hord
            rw [if_pos (by omega)] at hord
            have := (I.wS q' hW').1 (ancS q' hord)
            have := I.qq; omega
    have vis : q ≤ i → i < q' → (∀ k B, visB (before? an i) (D i).base (D i).ds k = some B → k < (D i).c) ∧ ∀ k B, visB (before? an i) (D i).base (D i).ds k = some B → visB (lst? listed) (D q').base (D q').ds k = some B := fun hqi hiq => by
      obtain ⟨hb1, new1, hn1, hg1⟩ := T.grow (i := q) (j := i) hqi (by omega) (fun m h1 h2 => I.noW m h1 (by omega))
      rw [I.ds0, List.append_nil] at hn1
      obtain ⟨hb2, new2, hn2, hg2⟩ := T.grow (i := i) (j := q') (by omega) I.qn (fun m h1 h2 => I.noW m (by omega) h2)
      have hl : ∀ k B, visB (before? an i) (D i).base (D i).ds k = some B → k < (D i).c := fun k B h => by
        refine visB_lt (fun B hB => ?_) (fun d hd => ?_) h
        · rw [hb1] at hB
          have := I.live k B hB
          have := hcm q i hqi (by omega); omega
        · rw [hn1] at hd; exact (hg1 d hd).2.1
      refine ⟨hl, fun k B h => ?_⟩
      have hk := hl k B h
      rw [hb2, hn2, visB_skip (fun d hd => by have := (hg2 d hd).1; omega)]
      exact visB_mono (fun d hd hp => ancS _ hp) h
    unfold wpOp
    rw [ho']
    simp only
    rw [hwant]
    have hinv := I.step.inv
    have hdi : Dom s ((D i).c + Zb) := fun id hid => by
      have := hcm 0 i (by omega) (by omega)
      rw [I.step.rho id (.inr (by simp only; omega))]; exact hdz id (by omega)
    cases T.step i o ho with
    | nw hw hv hD =>
      rw [if_neg (by rw [hw]; decide)]
      exact stay hnl (by rw [hD]) _ s (fun ⟨o2, g1, g2, _⟩ => by rw [ho] at g1; cases g1; rw [hw] at g2; cases g2) (fun _ _ h => h) (by rw [hv]; exact VR.undef) (fun _ => rfl) I.step
    | fr H' hw hf he hn hD =>
      rw [if_pos hw]
      refine .inl ?_
      have hX : Inv ⟨(D i).c, (D i).c, fun _ => none⟩ s := hinv.sub (fun k B h => by cases h) (fun k B h => by cases h) (Nat.le_refl _)
      have hfr : Fresh s (D i).c H'.nxt := fun id h1 h2 => by omega
      have he' : evOp Γ call (D i).t o ⟨(D i).c, (D i).c, fun _ => none⟩ = some (V i, H') := by
        unfold evOp
        split
        · rename_i hop; rw [hop] at hf; cases hf
        · exact he
      rw [← evOp_congr hops] at he'
      refine evOp_ok hΓ hc hX I.lr o he' hfr hdi _ Q fun c s' st hv => ?_
      have hro : ∀ id, s'.ρ id = s.ρ id := fun id => st.rho id (by rw [hn]; exact Nat.lt_or_ge _ _)
      refine stay hnl (by rw [hD]) c s' (fun ⟨o2, g1, _, g3, _⟩ => by rw [ho] at g1; cases g1; rw [hf] at g3; cases g3) (fun v c => st.vr hX hfr) hv hro ?_
      refine I.step.comp st hX hfr (fun k B h => by cases h) ?_ ?_ ?_ rfl rfl (fun k B h => .inr ⟨h, fun loc _ hwr => ?_⟩) (fun k _ _ => rfl)
      · have := hcm 0 i (by omega) (by omega)
        simp only; omega
      · have := hcm 0 i (by omega) (by omega); simp only; omega
      · have := hcm i ops.length (by omega) (Nat.le_refl _); simp only; omega
      · obtain ⟨_, _, B', _, hB, _⟩ := hwr; cases hB
    | e0 H' hw hf hb he hn hD =>
      rw [if_pos hw]
      refine .inl ?_
      obtain ⟨hqi, hiq⟩ := inside hb hf
      obtain ⟨hXlive, hsub⟩ := vis hqi hiq
      have hX : Inv ⟨(D i).c, (D i).c, visB (before? an i) (D i).base (D i).ds⟩ s := hinv.sub hsub hXlive (Nat.le_refl _)
      have hfr : Fresh s (D i).c H'.nxt := fun id h1 h2 => by omega
      rw [← evOp_congr hops] at he
      refine evOp_ok hΓ hc hX I.lr o he hfr hdi _ Q fun c s' st hv => ?_
      have hro : ∀ id, s'.ρ id = s.ρ id := fun id => st.rho id (by rw [hn]; exact Nat.lt_or_ge _ _)
      refine stay hnl (by rw [hD]) c s' (fun ⟨o2, g1, _, _, g4⟩ => by rw [hb] at g4; cases g4) (fun v c => st.vr hX hfr) hv hro ?_
      refine I.step.comp st hX hfr hsub ?_ ?_ ?_ rfl rfl (fun k B h => .inr ⟨h, fun loc _ hwr => ?_⟩) (fun k _ _ => rfl)
      · have := hcm 0 i (by omega) (by omega)
        simp only; omega
      · have := hcm 0 i (by omega) (by omega); simp only; omega
      · have := hcm i ops.length (by omega) (Nat.le_refl _); simp only; omega
      · obtain ⟨id, _, B', h1, hB, _⟩ := hwr
        have := hXlive id B' hB
        simp only at h1 this; omega
    | e1 H' hw hf hb he hn hD =>
      rw [if_pos hw]
      refine .inl ?_
      obtain ⟨hqi, hiq⟩ := inside hb hf
      obtain ⟨hXlive, hsub⟩ := vis hqi hiq
      have hX : Inv ⟨(D i).c, (D i).c, visB (before? an i) (D i).base (D i).ds⟩ s := hinv.sub hsub hXlive (Nat.le_refl _)
      have hcn : (D (i + 1)).c = H'.nxt := by rw [hD]
      have hfr : Fresh s (D i).c H'.nxt := by rw [← hcn]; exact I.fresh i hil hnl
      have hle : (D i).c ≤ H'.nxt := by rw [← hcn]; exact hcm i (i + 1) (by omega) (by omega)
      rw [← evOp_congr hops] at he
      refine evOp_ok hΓ hc hX I.lr o he hfr hdi _ Q fun c s' st hv => ?_
      have hv' : ∀ v c, VR s v c → VR s' v c := fun v c => st.vr hX hfr
      obtain ⟨_, new3, hn3, hg3⟩ := T.grow (i := i + 1) (j := q') (by omega) I.qn (fun m h1 h2 => I.noW m (by omega) h2)
      have hdsi : (D (i + 1)).ds = ⟨i, (D i).c, H'.nxt, H'.bl⟩ :: (D i).ds := by rw [hD]
      refine ih _ q q' (putA t o.dst (V i)) _ s' ⟨by simp [I.size], hdc', I.qq, I.qn, fun j hj => ?_, I.noW, I.nextW, I.prevW, I.ds0, I.live, put_lr (I.lr.mono hv') o.dst hv, by rw [putA_len]; exact I.len, hagree, by rw [hdef]; exact I.defs, ?_, fun j hj hl id h1 h2 => ?_⟩ hcount'
      · rw [hset]
        have : j ≠ i := by
          rintro rfl
          obtain ⟨o2, g1, _, _, g4⟩ := hj
          rw [hb] at g4; cases g4
        simp only [this, decide_false, Bool.false_or]
        exact I.wS j hj
      · refine I.step.comp st hX hfr hsub ?_ ?_ ?_ rfl rfl (fun k B h => ?_) (fun k h1 h2 => ?_)
        · have := hcm 0 i (by omega) (by omega)
          simp only; omega
        · have := hcm 0 i (by omega) (by omega); simp only; omega
        · have := hcm (i + 1) ops.length (by omega) (Nat.le_refl _); simp only; omega
        · by_cases hk : (D i).c ≤ k ∧ k < H'.nxt
          · left
            simp only at h
            rw [hn3, visB_skip (fun d hd => by have := (hg3 d hd).1; omega), hdsi, visB_cons, if_pos hk] at h
            rw [if_pos (by rw [hset]; simp)] at h
            exact h
          · right
            refine ⟨?_, fun loc _ hwr => ?_⟩
            · simp only at h ⊢
              rw [← h]
              refine (visB_congr_at fun d hd h1 h2 => ?_).symm
              rw [hset]
              rw [hnew] at hd
              obtain ⟨_, _, _, _, e1, e2, _, _⟩ := hgrow d hd
              have : d.j ≠ i := by
                rintro h3
                rw [h3] at e1 e2
                exact hk ⟨by omega, by omega⟩
              simp [this]
            · obtain ⟨id, _, B', h1, hB, _⟩ := hwr
              have := hXlive id B' hB
              simp only at h1 this; omega
        · have hlo : ∀ d ∈ (D q').ds, k < d.lo ∨ d.hi ≤ k := fun d hd => by
            rw [hnew] at hd
            have := (hgrow d hd).1
            have := hcm 0 q (by omega) (by have := I.qq; have := I.qn; omega)
            left; omega
          simp only
          rw [visB_out hlo, visB_out hlo]
      · rw [hset] at hl
        simp only [Bool.or_eq_false_iff, decide_eq_false_iff_not] at hl
        have h3 : s'.ρ id = s.ρ id := by
          refine st.rho id ?_
          simp only
          by_cases hji : j < i
          · have := hcm (j + 1) i (by omega) (by omega); left; omega
          · have := hcm (i + 1) j (by omega) (by omega); right; omega
        rw [h3]; exact I.fresh j hj hl.2 id h1 h2
    | wr H' hw hf hb he hD =>
      rw [if_pos hw]
      refine .inl ?_
      have hW : Wp ops an D i := ⟨o, ho, hw, hf, hb⟩
      have hqi : q ≤ i := by
        rcases Nat.lt_or_ge i q with h | h
        · have := (I.wS i hW).2 h; rw [hnl] at this; cases this
        · exact h
      have hq'i : q' ≤ i := by
        rcases Nat.lt_or_ge i q' with h | h
        · exact absurd hW (I.noW i hqi h)
        · exact h
      have hiq : i = q' := by
        rcases I.nextW with h | h
        · omega
        · rcases Nat.lt_or_ge q' i with hlt | hge
          · obtain ⟨o2, g1, g2, g3, g4⟩ := h
            have hord := barrier_spec g4 ho hf (by omega)
            unfold ordered at hord
            rw [if_pos hlt] at hord
            have h1 := (I.wS q' ⟨o2, g1, g2, g3, g4⟩).1 (ancS q' hord)
            have := I.qq; omega
          · omega
      subst hiq
      have hvis : visB (lst? listed) (D i).base (D i).ds = visB (fun _ => true) (D i).base (D i).ds := by
        funext k
        refine visB_congr (fun d hd => ?_) k
        rw [hnew] at hd
        obtain ⟨_, _, _, g1, _, _, _, od, god, gof⟩ := hgrow d hd
        have hord := barrier_spec hb god gof (by omega)
        unfold ordered at hord
        rw [if_neg (by omega)] at hord
        exact ancS _ hord
      have hXlive : ∀ k B, visB (fun _ => true) (D i).base (D i).ds k = some B → k < (D i).c := fun k B h => by
        refine visB_lt (fun B hB => ?_) (fun d hd => ?_) h
        · rw [hbase] at hB
          have := I.live k B hB
          have := hcm q i hqi (by omega); omega
        · rw [hnew] at hd; exact (hgrow d hd).2.1
      have hsub : ∀ k B, visB (fun _ => true) (D i).base (D i).ds k = some B → visB (lst? listed) (D i).base (D i).ds k = some B := fun k B h => by rw [hvis]; exact h
      have hc0i := hcm 0 i (by omega) (by omega)
      have hX : Inv ⟨(D i).c, H0.floor, visB (fun _ => true) (D i).base (D i).ds⟩ s := hinv.sub hsub hXlive (by simp only; omega)
      have hcn : (D (i + 1)).c = H'.nxt := by rw [hD]
      have hfr : Fresh s (D i).c H'.nxt := by rw [← hcn]; exact I.fresh i hil hnl
      rw [← evOp_congr hops] at he
      refine evOp_ok hΓ hc hX I.lr o he hfr hdi _ Q fun c s' st hv => ?_
      have hv' : ∀ v c, VR s v c → VR s' v c := fun v c => st.vr hX hfr
      obtain ⟨r, r1, r2, r3, r4⟩ := next_W ops an D (i + 1) (by omega)
      obtain ⟨hb5, new5, hn5, hg5⟩ := T.grow (i := i + 1) (j := r) r1 r2 r3
      have hds1 : (D (i + 1)).ds = [] := by rw [hD]
      have hbase1 : (D (i + 1)).base = H'.bl := by rw [hD]
      rw [hds1, List.append_nil] at hn5
      have hoff : ∀ d ∈ (D r).ds, lst? (listed.setIfInBounds i true) d.j = false := fun d hd => by
        rw [hn5] at hd
        obtain ⟨_, _, g1, g2, _, _, _, od, god, gof⟩ := hg5 d hd
        have hord := barrier_spec hb god gof (by omega)
        unfold ordered at hord
        rw [if_pos (by omega)] at hord
        rw [hset, ancT _ hord]
        simp; omega
      refine ih _ (i + 1) r (putA t o.dst (V i)) _ s' ⟨by simp [I.size], hdc', r1, r2, fun j hj => ?_, r3, r4, .inr ⟨by omega, hW⟩, hds1, fun k B h => ?_, put_lr (I.lr.mono hv') o.dst hv, by rw [putA_len]; exact I.len, hagree, by rw [hdef]; exact I.defs, ?_, fun j hj hl id h1 h2 => ?_⟩ hcount'
      · rw [hset]
        simp only [Bool.or_eq_true, decide_eq_true_eq]
        rw [I.wS j hj]
        constructor
        · rintro (h | h) <;> omega
        · intro h
          by_cases hji : j = i
          · exact .inl hji
          · right
            rcases Nat.lt_or_ge j q with h1 | h1
            · exact h1
            · exact absurd hj (I.noW j h1 (by omega))
      · rw [hbase1] at h; rw [hcn]; exact st.inv.nlt k B h
      · refine I.step.comp st hX hfr hsub (Nat.le_refl _) (by simp only; omega) ?_ rfl rfl (fun k B h => .inl ?_) (fun k h1 h2 => ?_)
        · have := hcm (i + 1) ops.length (by omega) (Nat.le_refl _); simp only; omega
        · simp only at h
          have := visB_none hoff h
          rw [hb5, hbase1] at this; exact this
        · have hlo1 : ∀ d ∈ (D r).ds, k < d.lo ∨ d.hi ≤ k := fun d hd => by
            rw [hn5] at hd
            have := (hg5 d hd).1
            have := hcm 0 (i + 1) (by omega) (by omega)
            left; omega
          simp only
          rw [visB_out hlo1, hb5, hbase1, hvis]
          exact st.old k h1 (by simp only; omega)
      · rw [hset] at hl
        simp only [Bool.or_eq_false_iff, decide_eq_false_iff_not] at hl
        have h3 : s'.ρ id = s.ρ id := by
          refine st.rho id ?_
          simp only
          by_cases hji : j < i
          · have := hcm (j + 1) i (by omega) (by omega); left; omega
          · have := hcm (i + 1) j (by omega) (by omega); right; omega
        rw [h3]; exact I.fresh j hj hl.2 id h1 h2
end
end Go.Proofs.YtkgghgigjeihjaaGreat.Sim
