/- Regions whose order is the text's. -/
import Derived.Test.YtkgghgigjeihjaaGreatS13
namespace Go.Proofs.YtkgghgigjeihjaaGreat.Sim
set_option linter.unusedVariables false
set_option linter.unusedSimpArgs false

def Callable (P : Program) (f : Nat) : Prop := ∃ F, P.funcs[f]? = some F ∧ F.name ≠ "runtime.NumGoroutine" ∧ F.body.isSome = true
def Dom (s : CS) (N : Nat) : Prop := ∀ id, N ≤ id → s.ρ id = none
/-- What a call gives, the model gives. -/
structure CallOK (P : Program) (Γ : Ctx) (call : CallF) : Prop where
  able : ∀ f args H r, call f args H = some r → Callable P f
  calls : ∀ f args H v H', call f args H = some (v, H') → ∀ (s : CS) (cs : Array Value), Inv H s → Fresh s H.nxt H'.nxt → Dom s (H.nxt + Zb) → LR s args cs.toList →
    Calls P f cs s.w fun e w' => ∃ c s', e = .returned c ∧ s'.w = w' ∧ Step H s H' s' ∧ VR s' v c
  defers : ∀ f args H v H', Γ.prim f = none → (Γ.fn f).any (fun F => F.body.any noDefer) = true → call f args H = some (v, H') → ∀ (s : CS) (cs : Array Value) (u : FrameMode), Inv H s → Fresh s H.nxt H'.nxt → Dom s (H.nxt + Zb) → LR s args cs.toList →
    CallsD P f cs u s.w fun e u' w' => ∃ c s', e = .returned c ∧ u' = u ∧ s'.w = w' ∧ Step H s H' s' ∧ VR s' v c

theorem Step.dom {H H' : AH} {s s' : CS} (st : Step H s H' s') {k : Nat} (h : Dom s (H.nxt + k)) : Dom s' (H'.nxt + k) := fun id hid => by
  have := st.nx
  rw [st.rho id (.inr (by omega))]; exact h id (by omega)
/-- Deferred calls, one by one. -/
def DRel (s : CS) (x : AV × List AV) (D : Deferred) : Prop := ∃ g a b l cl, x = (.fn g a b, l) ∧ ∃ a' b', VR s (.fn g a b) (.func g a' b') ∧ LR s a a'.toList ∧ LR s b b'.toList ∧ LR s l (cl : Array Value).toList ∧ D = { target := .fn g b', args := a' ++ cl }
def DRs (s : CS) : List (AV × List AV) → List Deferred → Prop
  | [], [] => True
  | x :: r, D :: q => DRel s x D ∧ DRs s r q
  | _, _ => False
structure SR (s : CS) (st : ASt) (a : Act) : Prop where
  inv : Inv st.H s
  t : LR s st.t a.tmps.toList
  d : DRs s st.d a.defers

section
variable {P : Program} {Γ : Ctx} {s : CS} {H : AH}

theorem DRs.mono {s s' : CS} (h : ∀ v c, VR s v c → VR s' v c) : ∀ {l : List (AV × List AV)} {q : List Deferred}, DRs s l q → DRs s' l q
  | [], [], _ => trivial
  | x :: r, D :: q, ⟨⟨g, a, b, l, cl, e, a', b', h1, h2, h3, h4, e2⟩, hr⟩ => ⟨⟨g, a, b, l, cl, e, a', b', h _ _ h1, h2.mono h, h3.mono h, h4.mono h, e2⟩, DRs.mono h hr⟩

theorem put_lr {t : List AV} {a : Act} (ht : LR s t a.tmps.toList) (dst : Option Nat) {v : AV} {c : Value} (hv : VR s v c) : LR s (putA t dst v) (a.put dst c).tmps.toList := by
  cases dst with
  | none => exact ht
  | some d =>
    simp only [putA, Act.put, Array.toList_setIfInBounds]
    exact ht.set d hv

theorem wanted_eq {ops : Array Oper} {t : List AV} {a : Act} (ht : LR s t a.tmps.toList) (o : Oper) : Region.wanted o (yielded ops a.tmps) = wantedA ops t o := by
  unfold Region.wanted wantedA
  cases o.guard with
  | none => rfl
  | some g =>
    obtain ⟨j, want⟩ := g
    simp only [yielded]
    cases hd : (ops[j]?).bind (·.dst) with
    | none => simp
    | some d =>
      simp only [Option.bind_some]
      cases hx : t[d]? with
      | none =>
        have : a.tmps[d]? = none := by
          have h1 := ht.1
          simp only [Array.length_toList] at h1
          rw [Array.getElem?_eq_none]
          have := List.getElem?_eq_none_iff.1 hx
          show a.tmps.size ≤ d
          rw [← h1]; exact this
        rw [this]; simp
      | some x =>
        obtain ⟨c, h1, h2⟩ := ht.get hx
        have h1' : a.tmps[d]? = some c := by rw [← Array.getElem?_toList]; exact h1
        rw [h1']
        cases h2 with
        | pv _ _ hp => cases hp <;> simp
        | _ => simp

theorem run_callFunc {f : Nat} (hf : Callable P f) (args : Array Value) (w : World) : (callFunc f args).run P w = .ok (.enter f args) w := by
  obtain ⟨F, h1, h2, h3⟩ := hf
  have hb : F.body.isNone = false := by cases hF : F.body <;> simp_all
  have hn : (F.name == "runtime.NumGoroutine") = false := by simpa using h2
  simp only [callFunc, Sem.run_bind, run_program, Result.andThen_ok, h1, hn, hb, Bool.false_eq_true, if_false]
  rfl

/-- One operation, a call or none. -/
theorem evOp_ok (hΓ : Γ.Ok P) {call : CallF} (hc : CallOK P Γ call) (hi : Inv H s) {t : List AV} {a : Act} (ht : LR s t a.tmps.toList) (o : Oper) {v : AV} {H' : AH} (h : evOp Γ call t o H = some (v, H')) (hf : Fresh s H.nxt H'.nxt) (hdz : Dom s (H.nxt + Zb))
    (next : Act → World → Prop) (Q : Exit → Act → World → Prop) (hn : ∀ c s', Step H s H' s' → VR s' v c → next (a.put o.dst c) s'.w) : o.wp P a s.w next Q := by
  have hone : Done P (execOp a.eval o) H s H' v → o.wp P a s.w next Q := fun ⟨n, s', h1, h2, h3⟩ => by
    unfold Oper.wp
    rw [h1]
    rcases h3 with ⟨c, rfl, hv⟩ | ⟨rfl, rfl⟩
    · exact hn c s' h2 hv
    · exact hn _ s' h2 VR.undef
  unfold evOp at h
  split at h
  · rename_i f args ats hop
    split at h
    · rename_i g l hg hl
      split at h
      · rename_i k l' hk
        unfold calleeA at hk
        split at hk
        · rename_i k' a1 b1
          cases hk
          have hgv := opv_vr ht hg
          obtain ⟨a', b', e1, e2, e3⟩ := hgv.of_fn
          have hargs := opvs_lr ht hl
          have hable := hc.able _ _ _ _ h
          have hrun : (execOp a.eval o).run P s.w = .ok (.enter k (a' ++ args.map a.eval ++ b')) s.w := by
            unfold execOp
            rw [hop]
            simp only [resolve, e1, Deferred.ofValue, Sem.run_bind, Sem.run_pure, Result.andThen_ok, invoke]
            exact run_callFunc hable _ _
          unfold Oper.wp
          rw [hrun]
          have hlr : LR s (a1 ++ l ++ b1) (a' ++ args.map a.eval ++ b').toList := by
            rw [Array.toList_append, Array.toList_append, Array.toList_map]
            exact (e2.append hargs).append e3
          refine (hc.calls _ _ _ _ _ h s _ hi hf hdz hlr).mono fun e w' he => ?_
          obtain ⟨c, s', rfl, rfl, h1, h2⟩ := he
          exact hn c s' h1 h2
        · cases hk
      · cases h
    · cases h
  · exact hone (ev1_ok hΓ hi ht o h hf)

theorem evOps_ok (hΓ : Γ.Ok P) {call : CallF} (hc : CallOK P Γ call) (hm : CallMono call) {ops : Array Oper} : ∀ (l : List Oper) (k : Nat) (st st' : ASt), evOps Γ call ops l st = some st' → (∀ j, l[j]? = ops[k + j]?) →
    ∀ (s : CS) (a : Act), SR s st a → Fresh s st.H.nxt st'.H.nxt → Dom s (st.H.nxt + Zb) → ∀ (Q : Exit → Act → World → Prop), (∀ a' s', SR s' st' a' → Step st.H s st'.H s' → Q .normal a' s'.w) → wpOps P ops Q (List.range' k l.length) a s.w
  | [], k, st, st', h, hl, s, a, hs, hf, hz, Q, hQ => by
    cases h
    exact hQ a s hs (Step.refl hs.inv)
  | o :: r, k, st, st', h, hl, s, a, hs, hf, hz, Q, hQ => by
    have ho : ops[k]? = some o := by have := hl 0; simpa using this.symm
    have hl' : ∀ j, r[j]? = ops[k + 1 + j]? := fun j => by have := hl (j + 1); rw [show k + 1 + j = k + (j + 1) by omega]; simpa using this
    simp only [List.length_cons, List.range'_succ]
    rw [wpOps_cons]
    unfold wpOp
    rw [ho]
    simp only
    rw [wanted_eq hs.t]
    rw [evOps] at h
    split at h
    · rename_i hw
      rw [if_pos hw]
      refine .inl ?_
      split at h
      · rename_i g hg
        unfold evDefer at hg
        split at hg
        · rename_i f args ats hop
          split at hg
          · rename_i q x y l hq hlq
            cases hg
            have hgv := opv_vr hs.t hq
            obtain ⟨a', b', e1, e2, e3⟩ := hgv.of_fn
            have hargs := opvs_lr hs.t hlq
            have hrun : (execOp a.eval o).run P s.w = .ok (.defer { target := .fn q b', args := a' ++ args.map a.eval }) s.w := by
              unfold execOp
              rw [hop]
              simp only [resolve, e1, Deferred.ofValue, Sem.run_bind, Sem.run_pure, Result.andThen_ok]
            unfold Oper.wp
            rw [hrun]
            rw [e1] at hgv
            refine evOps_ok hΓ hc hm r (k + 1) _ st' h hl' s _ ⟨hs.inv, ?_, ?_⟩ hf hz Q hQ
            · exact put_lr (a := { a with defers := { target := .fn q b', args := a' ++ args.map a.eval } :: a.defers }) hs.t o.dst VR.undef
            · have hd : (Act.put { a with defers := ({ target := .fn q b', args := a' ++ args.map a.eval } : Deferred) :: a.defers } o.dst undef).defers = { target := .fn q b', args := a' ++ args.map a.eval } :: a.defers := by
                cases o.dst <;> rfl
              rw [hd]
              refine ⟨⟨q, x, y, l, args.map a.eval, rfl, a', b', hgv, e2, e3, ?_, rfl⟩, hs.d⟩
              rw [Array.toList_map]; exact hargs
          · cases hg
        · cases hg
      · split at h
        · rename_i v H' h1
          have hmono := evOps_mono hm r _ _ h
          simp only at hmono
          have hf1 : Fresh s st.H.nxt H'.nxt := hf.sub (Nat.le_refl _) hmono
          refine evOp_ok hΓ hc hs.inv hs.t o h1 hf1 hz _ Q fun c s' hst hv => ?_
          refine evOps_ok hΓ hc hm r (k + 1) _ st' h hl' s' _ ⟨hst.inv, put_lr (hs.t.mono fun v c => hst.vr hs.inv hf1) o.dst hv, ?_⟩ (hst.fresh hf) (hst.dom hz) Q fun a' s'' h2 h3 => hQ a' s'' h2 (hst.trans h3)
          have hd : (a.put o.dst c).defers = a.defers := by cases o.dst <;> rfl
          rw [hd]
          exact hs.d.mono fun v c => hst.vr hs.inv hf1
        · cases h
    · rename_i hw
      rw [if_neg hw]
      have hd : (a.put o.dst undef).defers = a.defers := by cases o.dst <;> rfl
      exact evOps_ok hΓ hc hm r (k + 1) _ st' h hl' s _ ⟨hs.inv, put_lr hs.t o.dst VR.undef, by rw [hd]; exact hs.d⟩ hf hz Q hQ
end
end Go.Proofs.YtkgghgigjeihjaaGreat.Sim
