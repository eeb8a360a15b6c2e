/- Regions that draw their order: whatever the order, what the text's order gives. -/
import Derived.Test.YtkgghgigjeihjaaGreatS15
namespace Go.Proofs.YtkgghgigjeihjaaGreat.Sim
set_option linter.unusedVariables false
set_option linter.unusedSimpArgs false

theorem visB_congr_at {p p' : Nat → Bool} {base : Nat → Option ABlk} {k : Nat} : ∀ {ds : List Dlt}, (∀ d ∈ ds, d.lo ≤ k → k < d.hi → p d.j = p' d.j) → visB p base ds k = visB p' base ds k
  | [], _ => rfl
  | d :: r, h => by
    rw [visB_cons, visB_cons, visB_congr_at (ds := r) fun d hd => h d (by simp [hd])]
    split
    · rename_i hk; rw [h d (by simp) hk.1 hk.2]
    · rfl
theorem visB_mono {p p' : Nat → Bool} {base : Nat → Option ABlk} {k : Nat} {B : ABlk} : ∀ {ds : List Dlt}, (∀ d ∈ ds, p d.j = true → p' d.j = true) → visB p base ds k = some B → visB p' base ds k = some B
  | [], _, h => h
  | d :: r, h, hb => by
    rw [visB_cons] at hb ⊢
    split at hb
    · rename_i hk
      rw [if_pos hk]
      split at hb
      · rename_i hp; rw [if_pos (h d (by simp) hp)]; exact hb
      · cases hb
    · rename_i hk
      rw [if_neg hk]
      exact visB_mono (ds := r) (fun d hd => h d (by simp [hd])) hb
theorem visB_lt {p : Nat → Bool} {base : Nat → Option ABlk} {k N : Nat} {B : ABlk} (hbase : ∀ B, base k = some B → k < N) : ∀ {ds : List Dlt}, (∀ d ∈ ds, d.hi ≤ N) → visB p base ds k = some B → k < N
  | [], _, h => hbase B h
  | d :: r, h, hb => by
    rw [visB_cons] at hb
    split at hb
    · rename_i hk; have := h d (by simp); omega
    · exact visB_lt hbase (ds := r) (fun d hd => h d (by simp [hd])) hb
theorem visB_none {p : Nat → Bool} {base : Nat → Option ABlk} {k : Nat} {B : ABlk} : ∀ {ds : List Dlt}, (∀ d ∈ ds, p d.j = false) → visB p base ds k = some B → base k = some B
  | [], _, h => h
  | d :: r, h, hb => by
    rw [visB_cons] at hb
    split at hb
    · rw [h d (by simp)] at hb; cases hb
    · exact visB_none (ds := r) (fun d hd => h d (by simp [hd])) hb

/-- What one operation of such a region did, in the text's order. -/
inductive OpF (Γ : Ctx) (call : CallF) (ops : List Oper) (an : List Nat) (fl : Nat) (i : Nat) (o : Oper) (D D' : DSt) (v : AV) : Prop where
  | nw (hw : wantedA ops.toArray D.t o = false) (hv : v = .tup []) (hD : D' = { D with t := putA D.t o.dst v })
  | fr (H' : AH) (hw : wantedA ops.toArray D.t o = true) (hf : freeOp o.op = true) (he : ev1 Γ D.t o.op ⟨D.c, D.c, fun _ => none⟩ = some (v, H')) (hn : H'.nxt = D.c) (hD : D' = { D with t := putA D.t o.dst v })
  | wr (H' : AH) (hw : wantedA ops.toArray D.t o = true) (hf : freeOp o.op = false) (hb : barrier ops an i = true) (he : evOp Γ call D.t o ⟨D.c, fl, visB (fun _ => true) D.base D.ds⟩ = some (v, H')) (hD : D' = ⟨putA D.t o.dst v, H'.nxt, H'.bl, []⟩)
  | e0 (H' : AH) (hw : wantedA ops.toArray D.t o = true) (hf : freeOp o.op = false) (hb : barrier ops an i = false) (he : evOp Γ call D.t o ⟨D.c, D.c, visB (before? an i) D.base D.ds⟩ = some (v, H')) (hn : H'.nxt = D.c) (hD : D' = { D with t := putA D.t o.dst v })
  | e1 (H' : AH) (hw : wantedA ops.toArray D.t o = true) (hf : freeOp o.op = false) (hb : barrier ops an i = false) (he : evOp Γ call D.t o ⟨D.c, D.c, visB (before? an i) D.base D.ds⟩ = some (v, H')) (hn : H'.nxt ≠ D.c) (hD : D' = ⟨putA D.t o.dst v, H'.nxt, D.base, ⟨i, D.c, H'.nxt, H'.bl⟩ :: D.ds⟩)

theorem opF_of {Γ : Ctx} {call : CallF} {ops : List Oper} {an : List Nat} {fl i : Nat} {o : Oper} {D D' : DSt} (h : evDrawOp Γ call ops an fl i o D = some D') : ∃ v, OpF Γ call ops an fl i o D D' v := by
  unfold evDrawOp at h
  split at h
  · rename_i hw
    split at h
    · rename_i hf
      split at h
      · rename_i v H' he
        split at h
        · rename_i hn
          cases h
          exact ⟨v, .fr H' hw hf he hn rfl⟩
        · cases h
      · cases h
    · rename_i hf
      have hf' : freeOp o.op = false := by simpa using hf
      split at h
      · rename_i hb
        split at h
        · rename_i v H' he
          cases h
          exact ⟨v, .wr H' hw hf' hb he rfl⟩
        · cases h
      · rename_i hb
        have hb' : barrier ops an i = false := by simpa using hb
        split at h
        · rename_i v H' he
          split at h
          · rename_i hn
            cases h
            exact ⟨v, .e0 H' hw hf' hb' he hn rfl⟩
          · rename_i hn
            cases h
            exact ⟨v, .e1 H' hw hf' hb' he hn rfl⟩
        · cases h
  · rename_i hw
    cases h
    exact ⟨.tup [], .nw (by simpa using hw) rfl rfl⟩
theorem trace_of {Γ : Ctx} {call : CallF} {ops : List Oper} {an : List Nat} {fl : Nat} : ∀ (l : List Oper) (k : Nat) (D0 R : DSt), evDrawOps Γ call ops an fl l k D0 = some R → (∀ j, l[j]? = ops[k + j]?) →
    ∃ D : Nat → DSt, D k = D0 ∧ D (k + l.length) = R ∧ ∀ i o, k ≤ i → ops[i]? = some o → ∃ v, OpF Γ call ops an fl i o (D i) (D (i + 1)) v
  | [], k, D0, R, h, hl => by
    cases h
    refine ⟨fun _ => D0, rfl, rfl, fun i o hi ho => ?_⟩
    have := hl (i - k)
    rw [show k + (i - k) = i by omega, ho] at this
    simp at this
  | o :: r, k, D0, R, h, hl => by
    rw [evDrawOps] at h
    split at h
    · rename_i D1 h1
      obtain ⟨D, d1, d2, d3⟩ := trace_of r (k + 1) D1 R h (fun j => by have := hl (j + 1); rw [show k + 1 + j = k + (j + 1) by omega]; simpa using this)
      refine ⟨fun j => if j = k then D0 else D j, by simp, ?_, fun i o' hi ho => ?_⟩
      · simp only [List.length_cons]
        rw [if_neg (by omega), show k + (r.length + 1) = k + 1 + r.length by omega]; exact d2
      · by_cases hik : i = k
        · subst hik
          have ho' : ops[i]? = some o := by have := hl 0; simpa using this.symm
          rw [ho'] at ho; cases ho
          simp only [if_true]
          rw [if_neg (by omega), d1]
          exact opF_of h1
        · simp only
          rw [if_neg hik, if_neg (by omega)]
          exact d3 i o' (by omega) ho
    · cases h

structure Trace (Γ : Ctx) (call : CallF) (ops : List Oper) (an : List Nat) (fl : Nat) (D : Nat → DSt) (V : Nat → AV) : Prop where
  hm : CallMono call
  ok : drawOk ops an = true
  han : an = ancs ops []
  step : ∀ i o, ops[i]? = some o → OpF Γ call ops an fl i o (D i) (D (i + 1)) (V i)

section
variable {Γ : Ctx} {call : CallF} {ops : List Oper} {an : List Nat} {fl : Nat} {D : Nat → DSt} {V : Nat → AV}

def Wp (ops : List Oper) (an : List Nat) (D : Nat → DSt) (i : Nat) : Prop := ∃ o, ops[i]? = some o ∧ wantedA ops.toArray (D i).t o = true ∧ freeOp o.op = false ∧ barrier ops an i = true
theorem Trace.anc (T : Trace Γ call ops an fl D V) {i j : Nat} (h : before? an i j = true) : Anc ops i j := by
  rw [T.han] at h
  exact ancs_ok ops ops [] [] rfl rfl (fun i j h => by simp at h) i j h
theorem Trace.c_le (T : Trace Γ call ops an fl D V) {i : Nat} (hi : i < ops.length) : (D i).c ≤ (D (i + 1)).c := by
  have ho : ops[i]? = some ops[i] := List.getElem?_eq_getElem hi
  cases T.step i _ ho with
  | nw hw hv hD => rw [hD]; exact Nat.le_refl _
  | fr H' hw hf he hn hD => rw [hD]; exact Nat.le_refl _
  | wr H' hw hf hb he hD => rw [hD]; exact evOp_mono T.hm he
  | e0 H' hw hf hb he hn hD => rw [hD]; exact Nat.le_refl _
  | e1 H' hw hf hb he hn hD => rw [hD]; exact evOp_mono T.hm he
theorem Trace.c_mono (T : Trace Γ call ops an fl D V) {i : Nat} : ∀ {j : Nat}, i ≤ j → j ≤ ops.length → (D i).c ≤ (D j).c := by
  intro j
  induction j with
  | zero => intro h _; have : i = 0 := by omega
            subst this; exact Nat.le_refl _
  | succ j ih =>
    intro h hj
    by_cases he : i = j + 1
    · subst he; exact Nat.le_refl _
    · exact Nat.le_trans (ih (by omega) (by omega)) (T.c_le (by omega))
theorem Trace.grow (T : Trace Γ call ops an fl D V) {i : Nat} : ∀ {j : Nat}, i ≤ j → j ≤ ops.length → (∀ m, i ≤ m → m < j → ¬ Wp ops an D m) →
    (D j).base = (D i).base ∧ ∃ new, (D j).ds = new ++ (D i).ds ∧ ∀ d ∈ new, (D i).c ≤ d.lo ∧ d.hi ≤ (D j).c ∧ i ≤ d.j ∧ d.j < j ∧ d.lo = (D d.j).c ∧ d.hi = (D (d.j + 1)).c ∧ d.lo < d.hi ∧ ∃ o, ops[d.j]? = some o ∧ freeOp o.op = false := by
  intro j
  induction j with
  | zero =>
    intro h _ _
    have : i = 0 := by omega
    subst this; exact ⟨rfl, [], rfl, fun d hd => by simp at hd⟩
  | succ j ih =>
    intro h hj hW
    by_cases he : i = j + 1
    · subst he; exact ⟨rfl, [], rfl, fun d hd => by simp at hd⟩
    · obtain ⟨hb, new, hn, hall⟩ := ih (by omega) (by omega) (fun m h1 h2 => hW m h1 (by omega))
      have hjl : j < ops.length := by omega
      have ho : ops[j]? = some ops[j] := List.getElem?_eq_getElem hjl
      have hc := T.c_le hjl
      have keep : (D (j + 1)).base = (D j).base → (D (j + 1)).ds = (D j).ds → (D (j + 1)).base = (D i).base ∧ ∃ new, (D (j + 1)).ds = new ++ (D i).ds ∧ ∀ d ∈ new, (D i).c ≤ d.lo ∧ d.hi ≤ (D (j + 1)).c ∧ i ≤ d.j ∧ d.j < j + 1 ∧ d.lo = (D d.j).c ∧ d.hi = (D (d.j + 1)).c ∧ d.lo < d.hi ∧ ∃ o, ops[d.j]? = some o ∧ freeOp o.op = false := fun h1 h2 =>
        ⟨h1.trans hb, new, h2.trans hn, fun d hd => by obtain ⟨a1, a2, a3, a4, a5⟩ := hall d hd; exact ⟨a1, by omega, a3, by omega, a5⟩⟩
      cases T.step j _ ho with
      | nw hw hv hD => exact keep (by rw [hD]) (by rw [hD])
      | fr H' hw hf he hn hD => exact keep (by rw [hD]) (by rw [hD])
      | wr H' hw hf hb he hD => exact absurd ⟨_, ho, hw, hf, hb⟩ (hW j (by omega) (by omega))
      | e0 H' hw hf hb he hn hD => exact keep (by rw [hD]) (by rw [hD])
      | e1 H' hw hf hb' he' hn' hD =>
        refine ⟨by rw [hD]; exact hb, ⟨j, (D j).c, H'.nxt, H'.bl⟩ :: new, by rw [hD]; simp [hn], fun d hd => ?_⟩
        rcases List.mem_cons.1 hd with rfl | hd
        · have h1 := T.c_mono (i := i) (j := j) (by omega) (by omega)
          have h2 := evOp_mono T.hm he'
          simp only at h2
          refine ⟨h1, by rw [hD]; exact Nat.le_refl _, by simp only; omega, by simp, rfl, by rw [hD], by simp only; omega, _, ho, hf⟩
        · obtain ⟨a1, a2, a3, a4, a5⟩ := hall d hd
          exact ⟨a1, by omega, a3, by omega, a5⟩

/-- What a temporary holds when some of the operations have been done. -/
def Val (ops : List Oper) (V : Nat → AV) (t0 : List AV) (S : Nat → Prop) (x : Nat) (r : Option AV) : Prop :=
  (∃ m o, ops[m]? = some o ∧ o.dst = some x ∧ S m ∧ (∀ m' o', ops[m']? = some o' → o'.dst = some x → S m' → m' ≤ m) ∧ r = if x < t0.length then some (V m) else none) ∨
  ((∀ m o, ops[m]? = some o → o.dst = some x → ¬ S m) ∧ r = t0[x]?)
theorem Val.same {t0 : List AV} {S S' : Nat → Prop} {x : Nat} {r r' : Option AV} (h : Val ops V t0 S x r) (h' : Val ops V t0 S' x r') (hS : ∀ m o, ops[m]? = some o → o.dst = some x → (S m ↔ S' m)) : r = r' := by
  rcases h with ⟨m, o, a1, a2, a3, a4, a5⟩ | ⟨a1, a2⟩ <;> rcases h' with ⟨m', o', b1, b2, b3, b4, b5⟩ | ⟨b1, b2⟩
  · have h1 := a4 m' o' b1 b2 ((hS m' o' b1 b2).2 b3)
    have h2 := b4 m o a1 a2 ((hS m o a1 a2).1 a3)
    have : m = m' := by omega
    subst this; rw [a5, b5]
  · exact absurd ((hS m o a1 a2).1 a3) (b1 m o a1 a2)
  · exact absurd ((hS m' o' b1 b2).2 b3) (a1 m' o' b1 b2)
  · rw [a2, b2]
theorem Val.put {t0 t : List AV} {S : Nat → Prop} {i : Nat} {o : Oper} (ho : ops[i]? = some o) (hl : t.length = t0.length) (h : ∀ x, Val ops V t0 S x t[x]?) (hlt : ∀ m o' x, ops[m]? = some o' → o'.dst = some x → o.dst = some x → S m → m < i) (x : Nat) :
    Val ops V t0 (fun m => S m ∨ m = i) x (putA t o.dst (V i))[x]? := by
  by_cases hd : o.dst = some x
  · left
    refine ⟨i, o, ho, hd, .inr rfl, fun m' o' h1 h2 h3 => ?_, ?_⟩
    · rcases h3 with h3 | rfl
      · exact Nat.le_of_lt (hlt m' o' x h1 h2 hd h3)
      · exact Nat.le_refl _
    · rw [hd]; simp only [putA, List.getElem?_set, if_true, hl]
  · have e : (putA t o.dst (V i))[x]? = t[x]? := by
      cases hdd : o.dst with
      | none => rfl
      | some d =>
        simp only [putA, List.getElem?_set]
        rw [if_neg (by rintro rfl; exact hd hdd)]
    rw [e]
    rcases h x with ⟨m, om, a1, a2, a3, a4, a5⟩ | ⟨a1, a2⟩
    · refine .inl ⟨m, om, a1, a2, .inl a3, fun m' o' h1 h2 h3 => ?_, a5⟩
      rcases h3 with h3 | rfl
      · exact a4 m' o' h1 h2 h3
      · rw [ho] at h1; cases h1; exact absurd h2 hd
    · refine .inr ⟨fun m o' h1 h2 h3 => ?_, a2⟩
      rcases h3 with h3 | rfl
      · exact a1 m o' h1 h2 h3
      · rw [ho] at h1; cases h1; exact absurd h2 hd
theorem putA_len (t : List AV) (d : Option Nat) (v : AV) : (putA t d v).length = t.length := by
  cases d <;> simp [putA]
theorem opF_t {i : Nat} {o : Oper} {D D' : DSt} {v : AV} (h : OpF Γ call ops an fl i o D D' v) : D'.t = putA D.t o.dst v := by
  cases h with
  | nw hw hv hD => rw [hD]
  | fr H' hw hf he hn hD => rw [hD]
  | wr H' hw hf hb he hD => rw [hD]
  | e0 H' hw hf hb he hn hD => rw [hD]
  | e1 H' hw hf hb he hn hD => rw [hD]
theorem Trace.text (T : Trace Γ call ops an fl D V) : ∀ i, i ≤ ops.length → (D i).t.length = (D 0).t.length ∧ ∀ x, Val ops V (D 0).t (fun m => m < i) x (D i).t[x]? := by
  intro i
  induction i with
  | zero => exact fun _ => ⟨rfl, fun x => .inr ⟨fun m o _ _ h => by omega, rfl⟩⟩
  | succ i ih =>
    intro hi
    obtain ⟨h1, h2⟩ := ih (by omega)
    have ho : ops[i]? = some ops[i] := List.getElem?_eq_getElem (by omega)
    have ht := opF_t (T.step i _ ho)
    rw [ht]
    refine ⟨by rw [putA_len]; exact h1, fun x => ?_⟩
    have := Val.put (V := V) ho h1 h2 (fun m o' x _ _ _ h => h) x
    have e : (fun m => m < i ∨ m = i) = fun m => m < i + 1 := by funext m; simp only [eq_iff_iff]; omega
    rw [e] at this; exact this

theorem Trace.conflict (T : Trace Γ call ops an fl D V) {i j : Nat} {x y : Oper} (hij : i < j) (hx : ops[i]? = some x) (hy : ops[j]? = some y) (hb : before? an j i = false) : x.apart ops.toArray y = true := by
  have h := T.ok
  unfold drawOk at h
  rw [Bool.and_eq_true, List.all_eq_true, List.all_eq_true] at h
  have hj : j < ops.length := (List.getElem?_eq_some_iff.1 hy).1
  have h2 := h.2 j (by simpa using hj)
  rw [List.all_eq_true] at h2
  have h3 := h2 i (by simpa using hij)
  rw [hx, hy, hb] at h3
  simpa using h3
theorem Trace.edge_lt (T : Trace Γ call ops an fl D V) {i : Nat} {o : Oper} (ho : ops[i]? = some o) {e : Edge} (he : e ∈ o.after) (hb : Region.binds .any e = true) : e.on < i := by
  have h := T.ok
  unfold drawOk at h
  rw [Bool.and_eq_true, List.all_eq_true] at h
  have hj : i < ops.length := (List.getElem?_eq_some_iff.1 ho).1
  have h2 := h.1 i (by simpa using hj)
  rw [ho] at h2
  simp only [List.all_eq_true] at h2
  have h3 := h2 e (by simpa using he)
  rw [hb] at h3
  simp only [Bool.not_true, Bool.false_or] at h3
  have h4 : e.on + 1 ≤ i := by simpa [Nat.blt, Nat.ble_eq] using h3
  exact h4
theorem barrier_spec {i j : Nat} {o : Oper} (hb : barrier ops an i = true) (ho : ops[j]? = some o) (hf : freeOp o.op = false) (hne : j ≠ i) : ordered an i j = true := by
  unfold barrier at hb
  rw [List.all_eq_true] at hb
  have hj : j < ops.length := (List.getElem?_eq_some_iff.1 ho).1
  have h := hb j (by simpa using hj)
  rw [ho] at h
  simp only [hf, Bool.or_false, Bool.or_eq_true, beq_iff_eq] at h
  exact h.resolve_left hne
end
end Go.Proofs.YtkgghgigjeihjaaGreat.Sim
