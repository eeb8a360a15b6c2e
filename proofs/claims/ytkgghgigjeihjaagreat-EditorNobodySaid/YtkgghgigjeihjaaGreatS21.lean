/- The context of a program; calls that look at no memory; slices.Clone, whose answer at an empty slice hangs on its being nil. -/
import Derived.Test.YtkgghgigjeihjaaGreatS20
namespace Go.Proofs.YtkgghgigjeihjaaGreat.Sim
set_option linter.unusedVariables false
set_option linter.unusedSimpArgs false

/-- All functions and types of a program. -/
def ctxOf (P : Program) : Ctx where
  fn f := match P.funcs[f]? with
    | some F => if F.name ≠ "runtime.NumGoroutine" ∧ F.body.isSome = true then some F else none
    | none => none
  ty t := match P.info? t, P.underlying t with
    | some i, some d => match i.zero with
      | some z => match absV z with
        | some v => some ⟨d, i.size, i.bytes, v⟩
        | none => none
      | none => none
    | _, _ => none
  quiet _ := false
  prim _ := none
  eqok t := !P.eqGuardType P.depth t && !P.stoodInHeld t

theorem ctxOf_ok (P : Program) (hm : P.follows .mixedOrders = true) (q : Nat → Bool) (p : Nat → Option (List AV → AH → Option (AV × AH))) : ({ ctxOf P with quiet := q, prim := p } : Ctx).Ok P := by
  refine ⟨hm, fun t i h => ?_, fun f F h => ?_, fun t h => ?_⟩
  · simp only [ctxOf] at h
    split at h
    · rename_i inf d h1 h2
      split at h
      · rename_i z h3
        split at h
        · rename_i v h4
          cases h
          exact ⟨h2, inf, z, h1, rfl, rfl, h3, h4⟩
        · cases h
      · cases h
    · cases h
  · simp only [ctxOf] at h
    split at h
    · rename_i G h1
      split at h
      · rename_i h2
        cases h
        exact ⟨h1, h2.1, h2.2⟩
      · cases h
    · cases h
  · simp only [ctxOf, Bool.and_eq_true, Bool.not_eq_true'] at h
    exact h

section
variable {P : Program} {Γ : Ctx}

/-- A call that looks at no memory may be made anywhere. -/
theorem pure_calls {call : CallF} (hc : CallOK P Γ call) {f : Nat} {args : List AV} {v : AV} (h : call f args H0 = some (v, H0)) {H : AH} {s : CS} (hi : Inv H s) (cs : Array Value) (hl : LR { s with ρ := fun _ => none } args cs.toList) :
    Calls P f cs s.w fun e w' => ∃ c s', e = .returned c ∧ s'.w = w' ∧ Step H s H s' ∧ VR s' v c := by
  have hX : Inv H0 { s with ρ := fun _ => none } := ⟨Nat.le_refl _, (fun id loc h => by cases h), hi.ilt, (fun id B h => by cases h), (fun id B h => by cases h), fun id id' B B' loc loc' h => by cases h⟩
  refine (hc.calls f args H0 v H0 h _ cs hX (fun _ _ _ => rfl) (fun _ _ => rfl) hl).mono fun e w' ⟨c, s1, h1, h2, st, hv⟩ => ?_
  have hnw : ∀ b, ¬ Wr H0 { s with ρ := fun _ => none } b := fun b ⟨id, loc, B, _, hB, _⟩ => by cases hB
  have hframe : ∀ b, b < s.w.heap.size → s1.w.heap[b]? = s.w.heap[b]? := fun b hb => st.frame b hb (hnw b)
  have hI : ∀ b, s.I b → s1.I b := st.imono
  have hvv : ∀ v c, VR s v c → VR { w := s1.w, ρ := s.ρ, I := s1.I } v c := fun v c h => h.mono (s := s) (s' := { w := s1.w, ρ := s.ρ, I := s1.I }) (fun _ _ h => h) hI fun b hb => hframe b (hi.ilt b hb)
  have hinew : ∀ b, s1.I b → s.I b ∨ s.w.heap.size ≤ b := fun b hb => by
    rcases st.inew b hb with h | h | h
    · exact .inl h
    · exact absurd h (hnw b)
    · exact .inr h
  refine ⟨c, { w := s1.w, ρ := s.ρ, I := s1.I }, h1, h2, ⟨st.os, st.tape, st.output, st.hs, Nat.le_refl _, fun _ _ => rfl, fun b hb _ => hframe b hb, hI, fun b hb => ?_, fun id loc g1 g2 => absurd g1 (Nat.not_le_of_lt g2), rfl, fun _ _ _ => rfl, fun id B _ h => ⟨B, h⟩, ?_⟩, ?_⟩
  · rcases hinew b hb with h | h
    · exact .inl h
    · exact .inr (.inr h)
  · refine ⟨hi.fln, fun id loc h => Nat.lt_of_lt_of_le (hi.rlt id loc h) st.hs, st.inv.ilt, hi.nlt, fun id B h => ?_, hi.inj⟩
    obtain ⟨loc, e1, e2, e3⟩ := hi.blk id B h
    have hlt := hi.rlt id loc e1
    refine ⟨loc, e1, fun hb => ?_, e3.mono hvv (hframe _ hlt)⟩
    rcases hinew _ hb with h | h
    · exact e2 h
    · omega
  · refine hv.mono (s := s1) (s' := { w := s1.w, ρ := s.ρ, I := s1.I }) (fun id loc hr => ?_) (fun _ h => h) fun _ _ => rfl
    have : s1.ρ id = none := st.rho id (.inr (Nat.zero_le _))
    rw [this] at hr; cases hr

/-- slices.Clone: of an empty slice an empty one, nil or not. -/
def cloneP (Γ : Ctx) (f : Nat) (args : List AV) (H : AH) : Option (AV × AH) :=
  match args with
  | [.lst l n e] => if n = 0 then some (.lst [] 0 true, H) else evF Γ 50 f args H
  | _ => evF Γ 50 f args H
theorem cloneP_ok {Γ Γq : Ctx} (hΓ : Γ.Ok P) (hp : ∀ f, Γ.prim f = none) (hq : Γq.Ok P) (hqp : ∀ f, Γq.prim f = none) {f : Nat} (hf : Callable P f) (h1 : evF Γq 50 f [.nils] H0 = some (.lst [] 0 true, H0)) (h2 : evF Γq 50 f [.nnl [] 0 false] H0 = some (.lst [] 0 true, H0)) :
    PrimOK P f (cloneP Γ f) := by
  have ok := evF_ok hΓ (fun f p h => by rw [hp f] at h; cases h) 50
  have okq := evF_ok hq (fun f p h => by rw [hqp f] at h; cases h) 50
  have hm := evF_mono (Γ := Γ) (fun f p h => by rw [hp f] at h; cases h) 50
  refine ⟨hf, fun args H v H' h => ?_, fun args H v H' h s cs hi hfr hz hl => ?_⟩
  · unfold cloneP at h
    split at h
    · split at h
      · cases h; exact Nat.le_refl _
      · exact hm _ _ _ _ _ h
    · exact hm _ _ _ _ _ h
  · unfold cloneP at h
    split at h
    · rename_i l n e
      split at h
      · rename_i hn
        subst hn
        cases h
        obtain ⟨c, cs', hcs, g1, g2⟩ := hl.of_cons
        have g3 := g2.of_nil
        subst g3
        have hcases : PV { s with ρ := fun _ => none } .nils c ∨ PV { s with ρ := fun _ => none } (.nnl [] 0 false) c := by
          rcases g1.of_lst with ⟨_, _, rfl⟩ | ⟨b, o, k, g, rfl, a1, a2, a3, a4, a5⟩
          · exact .inl .nils
          · exact .inr (.nnl [] 0 false b o k g a1 a2 (fun h => by cases h) (fun i x h => by cases h) (fun i x h => by cases h))
        rcases hcases with g | g
        · exact pure_calls okq h1 hi cs (by rw [hcs]; exact LR.cons (.pv _ _ g) LR.nil)
        · exact pure_calls okq h2 hi cs (by rw [hcs]; exact LR.cons (.pv _ _ g) LR.nil)
      · exact ok.calls _ _ _ _ _ h s cs hi hfr hz hl
    · exact ok.calls _ _ _ _ _ h s cs hi hfr hz hl
end
end Go.Proofs.YtkgghgigjeihjaaGreat.Sim
