/- Regions that draw their order: what an operation looks at, what comes before it, steps side by side. -/
import Derived.Test.YtkgghgigjeihjaaGreatS14
namespace Go.Proofs.YtkgghgigjeihjaaGreat.Sim
set_option linter.unusedVariables false
set_option linter.unusedSimpArgs false

section congr
variable {Γ : Ctx} {t t' : List AV} {H : AH}
theorem opv_congr {x : Operand} (h : ∀ i, x = .tmp i → t[i]? = t'[i]?) : opv t x = opv t' x := by
  cases x with
  | tmp i => simp only [opv, List.getD_eq_getElem?_getD, h i rfl]
  | _ => rfl
theorem opvs_congr : ∀ {xs : List Operand}, (∀ x ∈ xs, ∀ i, x = .tmp i → t[i]? = t'[i]?) → opvs t xs = opvs t' xs
  | [], _ => rfl
  | x :: r, h => by
    simp only [opvs]
    rw [opv_congr (h x (by simp)), opvs_congr (xs := r) fun y hy => h y (by simp [hy])]
theorem opo_congr {x : Option Operand} (h : ∀ y ∈ x, ∀ i, y = .tmp i → t[i]? = t'[i]?) : opo t x = opo t' x := by
  cases x with
  | none => rfl
  | some y => simp only [opo]; rw [opv_congr (h y (by simp))]
theorem optParts_congr : ∀ {ps : List (Nat × Operand)}, (∀ x ∈ ps.map (·.2), ∀ i, x = .tmp i → t[i]? = t'[i]?) → optParts t ps = optParts t' ps
  | [], _ => rfl
  | (k, x) :: r, h => by
    simp only [optParts]
    rw [opv_congr (h x (by simp)), optParts_congr (ps := r) fun y hy => h y (by simp only [List.map_cons, List.mem_cons]; exact .inr hy)]
theorem ev1_congr {op : Op} (h : ∀ x ∈ op.operands.toList, ∀ i, x = .tmp i → t[i]? = t'[i]?) : ev1 Γ t op H = ev1 Γ t' op H := by
  have one : ∀ x, x ∈ op.operands.toList → opv t x = opv t' x := fun x hx => opv_congr (h x hx)
  cases op with
  | move x => simp only [ev1]; rw [one x (by simp [Op.operands])]
  | assign x => simp only [ev1]; rw [one x (by simp [Op.operands])]
  | pick c a b => simp only [ev1]; rw [one c (by simp [Op.operands]), one a (by simp [Op.operands]), one b (by simp [Op.operands])]
  | box e x => simp only [ev1]; rw [one x (by simp [Op.operands])]
  | build T ps => simp only [ev1]; rw [optParts_congr (fun x hx => h x (by simpa [Op.operands] using hx))]
  | buildSlice T n ps => simp only [ev1]; rw [optParts_congr (fun x hx => h x (by simpa [Op.operands] using hx))]
  | load T x => simp only [ev1]; rw [one x (by simp [Op.operands])]
  | store T x y => simp only [ev1]; rw [one x (by simp [Op.operands]), one y (by simp [Op.operands])]
  | nilCheck x => simp only [ev1]; rw [one x (by simp [Op.operands])]
  | binOp o T x y yT => simp only [ev1]; rw [one x (by simp [Op.operands]), one y (by simp [Op.operands])]
  | unOp o T x => simp only [ev1]; rw [one x (by simp [Op.operands])]
  | convert a b x => simp only [ev1]; rw [one x (by simp [Op.operands])]
  | makeFunc g a b =>
    simp only [ev1]
    rw [opvs_congr (fun x hx => h x (by simp [Op.operands]; exact .inl (by simpa using hx))), opvs_congr (xs := b.toList) (fun x hx => h x (by simp [Op.operands]; exact .inr (by simpa using hx)))]
  | makeMap T r => simp only [ev1]; rw [opo_congr (fun y hy => h y (by simp only [Op.operands]; cases r <;> simp_all))]
  | makeSlice T x y => simp only [ev1]; rw [one x (by simp [Op.operands]), one y (by simp [Op.operands])]
  | slice T x lo hi mx =>
    simp only [ev1]
    rw [one x (by simp [Op.operands]), opo_congr (x := lo) (fun y hy => h y (by simp only [Op.operands]; cases lo <;> simp_all)), opo_congr (x := hi) (fun y hy => h y (by simp only [Op.operands]; cases hi <;> simp_all)), opo_congr (x := mx) (fun y hy => h y (by simp only [Op.operands]; cases mx <;> simp_all))]
  | fieldAddr T x k => simp only [ev1]; rw [one x (by simp [Op.operands])]
  | field T x k => simp only [ev1]; rw [one x (by simp [Op.operands])]
  | indexAddr T x y => simp only [ev1]; rw [one x (by simp [Op.operands]), one y (by simp [Op.operands])]
  | index T x y => simp only [ev1]; rw [one x (by simp [Op.operands]), one y (by simp [Op.operands])]
  | lookup T x y b => simp only [ev1]; rw [one x (by simp [Op.operands]), one y (by simp [Op.operands])]
  | mapUpdate T x y z => simp only [ev1]; rw [one x (by simp [Op.operands]), one y (by simp [Op.operands]), one z (by simp [Op.operands])]
  | insert T x y z => simp only [ev1]; rw [one x (by simp [Op.operands]), one y (by simp [Op.operands]), one z (by simp [Op.operands])]
  | range T x => simp only [ev1]; rw [one x (by simp [Op.operands])]
  | next x b => simp only [ev1]; rw [one x (by simp [Op.operands])]
  | extract x k => simp only [ev1]; rw [one x (by simp [Op.operands])]
  | call c =>
    obtain ⟨callee, args, ats⟩ := c
    cases callee with
    | builtin b => simp only [ev1]; rw [opvs_congr (fun x hx => h x (by simp [Op.operands, Call.operands]; simpa using hx))]
    | _ => rfl
  | _ => rfl
theorem evOp_congr {call : CallF} {o : Oper} (h : ∀ x ∈ o.op.operands.toList, ∀ i, x = .tmp i → t[i]? = t'[i]?) : evOp Γ call t o H = evOp Γ call t' o H := by
  unfold evOp
  split
  · rename_i f args ats hop
    rw [hop] at h
    rw [opv_congr (h f (by simp [Op.operands, Call.operands])), opvs_congr (fun x hx => h x (by simp [Op.operands, Call.operands]; exact .inr (by simpa using hx)))]
  · exact ev1_congr h
theorem looks {ops : Array Oper} {o : Oper} {x : Operand} (hx : x ∈ o.op.operands.toList) {i : Nat} (hi : x = .tmp i) : i ∈ o.looksAt ops := by
  subst hi
  unfold Oper.looksAt
  rw [List.mem_append]
  left
  rw [List.mem_filterMap]
  exact ⟨_, hx, rfl⟩
theorem wantedA_congr {ops : Array Oper} {o : Oper} (h : ∀ i ∈ o.looksAt ops, t[i]? = t'[i]?) : wantedA ops t o = wantedA ops t' o := by
  unfold wantedA
  cases hg : o.guard with
  | none => rfl
  | some g =>
    obtain ⟨j, want⟩ := g
    simp only
    cases hd : (ops[j]?).bind (·.dst) with
    | none => rfl
    | some d =>
      have : d ∈ o.looksAt ops := by
        unfold Oper.looksAt
        rw [List.mem_append]
        right
        rw [hg]
        simp only [hd]
        simp
      simp only [h d this]
end congr

/-- What surely comes before. -/
inductive Anc (ops : List Oper) : Nat → Nat → Prop where
  | edge (i : Nat) (o : Oper) (e : Edge) (ho : ops[i]? = some o) (he : e ∈ o.after) (hb : Region.binds .any e = true) : Anc ops i e.on
  | trans (i : Nat) (o : Oper) (e : Edge) (j : Nat) (ho : ops[i]? = some o) (he : e ∈ o.after) (hb : Region.binds .any e = true) (h : Anc ops e.on j) : Anc ops i j

theorem fold_anc (acc : List Nat) (j : Nat) : ∀ (es : List Edge) (m : Nat), (es.foldl (fun m e => if Region.binds .any e then m ||| 2 ^ e.on ||| acc.getD e.on 0 else m) m).testBit j = true →
    m.testBit j = true ∨ ∃ e ∈ es, Region.binds .any e = true ∧ (e.on = j ∨ (acc.getD e.on 0).testBit j = true)
  | [], m, h => .inl h
  | e :: es, m, h => by
    simp only [List.foldl_cons] at h
    rcases fold_anc acc j es _ h with h1 | ⟨e', h1, h2, h3⟩
    · split at h1
      · rename_i hb
        rw [Nat.testBit_or, Nat.testBit_or, Bool.or_eq_true, Bool.or_eq_true, Nat.testBit_two_pow] at h1
        rcases h1 with (h1 | h1) | h1
        · exact .inl h1
        · exact .inr ⟨e, by simp, hb, .inl (by simpa using h1)⟩
        · exact .inr ⟨e, by simp, hb, .inr h1⟩
      · exact .inl h1
    · exact .inr ⟨e', by simp [h1], h2, h3⟩
theorem ancs_ok (ops : List Oper) : ∀ (r pre : List Oper) (acc : List Nat), ops = pre ++ r → pre.length = acc.length → (∀ i j, (acc.getD i 0).testBit j = true → Anc ops i j) → ∀ i j, ((ancs r acc).getD i 0).testBit j = true → Anc ops i j
  | [], pre, acc, _, _, h, i, j, hij => h i j hij
  | o :: r, pre, acc, hp, hl, h, i, j, hij => by
    rw [ancs] at hij
    refine ancs_ok ops r (pre ++ [o]) _ (by rw [hp]; simp) (by simp [hl]) (fun i j h1 => ?_) i j hij
    rw [List.getD_eq_getElem?_getD, List.getElem?_append] at h1
    split at h1
    · rename_i hlt
      exact h i j (by rw [List.getD_eq_getElem?_getD]; exact h1)
    · rename_i hge
      by_cases he : i = acc.length
      · subst he
        simp only [Nat.sub_self, List.getElem?_cons_zero, Option.getD_some] at h1
        have ho : ops[acc.length]? = some o := by rw [hp, ← hl]; simp
        rcases fold_anc acc j _ _ h1 with h2 | ⟨e, e1, e2, e3⟩
        · simp at h2
        · rcases e3 with rfl | e3
          · exact .edge _ o e ho (by simpa using e1) e2
          · exact .trans _ o e j ho (by simpa using e1) e2 (h _ _ e3)
      · have : i - acc.length ≠ 0 := by omega
        cases hq : i - acc.length with
        | zero => omega
        | succ q => rw [hq] at h1; simp at h1

/-- A step made from part of the memory, seen from the whole of it. -/
theorem Step.comp {H0 E X X' E' : AH} {s0 s s' : CS} (st : Step H0 s0 E s) (op : Step X s X' s') (hX : Inv X s) (hf : Fresh s X.nxt X'.nxt) (hsub : ∀ k B, X.bl k = some B → E.bl k = some B) (h1 : H0.floor ≤ X.floor) (h2 : H0.nxt ≤ X.nxt) (h3 : X'.nxt ≤ E.nxt)
    (hn : E'.nxt = E.nxt) (hfl : E'.floor = E.floor)
    (hbl : ∀ k B, E'.bl k = some B → X'.bl k = some B ∨ (E.bl k = some B ∧ ∀ loc, s.ρ k = some loc → ¬ Wr X s loc.blk))
    (hold : ∀ k, k < H0.floor → k < H0.nxt → E'.bl k = E.bl k) : Step H0 s0 E' s' := by
  have hE := st.inv
  have wr : ∀ b, Wr X s b → Wr E s b := fun b ⟨id, loc, B, a1, a2, a3, a4⟩ => ⟨id, loc, B, by rw [st.fl]; omega, hsub _ _ a2, a3, a4⟩
  have ro : ∀ id loc, s.ρ id = some loc → s'.ρ id = some loc := fun id loc h => op.ro hf h
  have vr : ∀ v c, VR s v c → VR s' v c := fun v c => op.vr hX hf
  refine ⟨op.os.trans st.os, op.tape.trans st.tape, op.output.trans st.output, Nat.le_trans st.hs op.hs, by rw [hn]; exact st.nx, fun id h => ?_, fun b hb hw => ?_, fun b h => op.imono b (st.imono b h), fun b h => ?_, fun id loc a1 a2 a3 => ?_, hfl.trans st.fl, fun id a1 a2 => (hold id a1 a2).trans (st.old id a1 a2), fun id B a1 a2 => ?_, ?_⟩
  · rw [op.rho id (by rw [hn] at h; omega), st.rho id (by rw [hn] at h; exact h)]
  · rw [op.frame b (Nat.lt_of_lt_of_le hb st.hs) (fun h => (st.wr (wr b h)).elim hw (by omega)), st.frame b hb hw]
  · have := st.hs
    rcases op.inew b h with h | h | h
    · exact st.inew b h
    · exact (st.wr (wr b h)).elim (fun h => .inr (.inl h)) fun h => .inr (.inr h)
    · exact .inr (.inr (by omega))
  · have hsz := st.hs
    by_cases hx : id < X.nxt ∨ X'.nxt ≤ id
    · rw [op.rho id hx] at a3
      exact st.rnew id loc a1 (by rw [hn] at a2; exact a2) a3
    · rcases op.rnew id loc (by omega) (by omega) a3 with h | h
      · exact st.wr (wr _ h)
      · exact .inr (by omega)
  · rcases hbl id B a2 with h | ⟨h, _⟩
    · obtain ⟨B0, e0⟩ := op.liv id B (by omega) h
      exact st.liv id B0 a1 (hsub _ _ e0)
    · exact st.liv id B a1 h
  · refine ⟨by rw [hn, hfl]; exact hE.fln, op.inv.rlt, op.inv.ilt, fun id B h => ?_, fun id B h => ?_, fun id id' B B' loc loc' a1 a2 a3 a4 a5 => ?_⟩
    · rw [hn]
      rcases hbl id B h with h | ⟨h, _⟩
      · have := op.inv.nlt id B h; omega
      · exact hE.nlt id B h
    · rcases hbl id B h with h | ⟨h, hu⟩
      · exact op.inv.blk id B h
      · obtain ⟨loc, e1, e2, e3⟩ := hE.blk id B h
        have hlt := hE.rlt id loc e1
        refine ⟨loc, ro id loc e1, fun hI => ?_, e3.mono vr (op.frame _ hlt (hu loc e1))⟩
        rcases op.inew _ hI with h | h | h
        · exact e2 h
        · exact hu loc e1 h
        · omega
    · have old : ∀ k B, E.bl k = some B → ∃ l, s.ρ k = some l ∧ s'.ρ k = some l := fun k B h => by
        obtain ⟨l, e1, _⟩ := hE.blk k B h
        exact ⟨l, e1, ro k l e1⟩
      have newer : ∀ k B l, X'.bl k = some B → s'.ρ k = some l → (∃ B0, E.bl k = some B0) ∨ Wr X s l.blk ∨ s.w.heap.size ≤ l.blk := fun k B l h1 h2 => by
        by_cases hk : k < X.nxt
        · obtain ⟨B0, e0⟩ := op.liv k B hk h1
          exact .inl ⟨B0, hsub _ _ e0⟩
        · exact .inr (op.rnew k l (by omega) (op.inv.nlt k B h1) h2)
      have mix : ∀ k k' B B' l l', X'.bl k = some B → E.bl k' = some B' → (∀ loc, s.ρ k' = some loc → ¬ Wr X s loc.blk) → s'.ρ k = some l → s'.ρ k' = some l' → l.blk = l'.blk → k = k' := fun k k' B B' l l' b1 b2 b3 b4 b5 b6 => by
        obtain ⟨q, c1, c2⟩ := old k' B' b2
        rw [c2] at b5; cases b5
        rcases newer k B l b1 b4 with ⟨B0, e0⟩ | h | h
        · obtain ⟨q0, d1, d2⟩ := old k B0 e0
          rw [d2] at b4; cases b4
          exact hE.inj _ _ _ _ _ _ e0 b2 d1 c1 b6
        · rw [b6] at h; exact absurd h (b3 _ c1)
        · have := hE.rlt _ _ c1; omega
      rcases hbl id B a1 with h | ⟨h, hu⟩ <;> rcases hbl id' B' a2 with k | ⟨k, ku⟩
      · exact op.inv.inj _ _ _ _ _ _ h k a3 a4 a5
      · exact mix _ _ _ _ _ _ h k ku a3 a4 a5
      · exact (mix _ _ _ _ _ _ k h hu a4 a3 a5.symm).symm
      · obtain ⟨q, c1, c2⟩ := old id B h
        obtain ⟨q', c3, c4⟩ := old id' B' k
        rw [c2] at a3; cases a3
        rw [c4] at a4; cases a4
        exact hE.inj _ _ _ _ _ _ h k c1 c3 a5

theorem Inv.sub {H X : AH} {s : CS} (hi : Inv H s) (h : ∀ k B, X.bl k = some B → H.bl k = some B) (hn : ∀ k B, X.bl k = some B → k < X.nxt) (hfl : X.floor ≤ X.nxt) : Inv X s :=
  ⟨hfl, hi.rlt, hi.ilt, hn, fun k B hk => hi.blk k B (h k B hk), fun k k' B B' l l' a b => hi.inj k k' B B' l l' (h _ _ a) (h _ _ b)⟩

theorem visB_congr {p p' : Nat → Bool} {base : Nat → Option ABlk} : ∀ {ds : List Dlt}, (∀ d ∈ ds, p d.j = p' d.j) → ∀ k, visB p base ds k = visB p' base ds k
  | [], _, k => rfl
  | d :: r, h, k => by
    simp only [visB]
    rw [h d (by simp), visB_congr (ds := r) (fun d hd => h d (by simp [hd])) k]
theorem visB_cons {p : Nat → Bool} {base : Nat → Option ABlk} {d : Dlt} {r : List Dlt} (k : Nat) : visB p base (d :: r) k = if d.lo ≤ k ∧ k < d.hi then (if p d.j = true then d.bl k else none) else visB p base r k := by
  have h1 : (Nat.ble d.lo k && Nat.blt k d.hi) = decide (d.lo ≤ k ∧ k < d.hi) := by
    rw [Bool.eq_iff_iff]
    simp [Nat.blt, Nat.ble_eq]
    omega
  simp only [visB, h1]
  by_cases h : d.lo ≤ k ∧ k < d.hi
  · rw [if_pos h]; simp only [h, and_self, decide_true, cond_true]
    cases p d.j <;> rfl
  · rw [if_neg h]; simp only [h, decide_false, cond_false]
theorem visB_skip {p : Nat → Bool} {base : Nat → Option ABlk} : ∀ {new ds : List Dlt} {k : Nat}, (∀ d ∈ new, k < d.lo) → visB p base (new ++ ds) k = visB p base ds k
  | [], ds, k, _ => rfl
  | d :: r, ds, k, h => by
    rw [List.cons_append, visB_cons, if_neg (by have := h d (by simp); omega)]
    exact visB_skip fun d hd => h d (by simp [hd])
theorem visB_out {p : Nat → Bool} {base : Nat → Option ABlk} : ∀ {ds : List Dlt} {k : Nat}, (∀ d ∈ ds, k < d.lo ∨ d.hi ≤ k) → visB p base ds k = base k
  | [], k, _ => rfl
  | d :: r, k, h => by
    rw [visB_cons, if_neg (by have := h d (by simp); omega)]
    exact visB_out fun d hd => h d (by simp [hd])
end Go.Proofs.YtkgghgigjeihjaaGreat.Sim
