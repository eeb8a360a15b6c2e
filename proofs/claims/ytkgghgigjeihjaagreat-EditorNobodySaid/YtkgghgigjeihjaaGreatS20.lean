/- What the interpreter gives for a call, the model gives. -/
import Derived.Test.YtkgghgigjeihjaaGreatS19
namespace Go.Proofs.YtkgghgigjeihjaaGreat.Sim
set_option linter.unusedVariables false
set_option linter.unusedSimpArgs false
section
variable {P : Program} {Γ : Ctx} {call : CallF}

/-- What a call of a function that is told otherwise gives. -/
structure PrimOK (P : Program) (f : Nat) (p : List AV → AH → Option (AV × AH)) : Prop where
  able : Callable P f
  mono : ∀ args H v H', p args H = some (v, H') → H.nxt ≤ H'.nxt
  calls : ∀ args H v H', p args H = some (v, H') → ∀ (s : CS) (cs : Array Value), Inv H s → Fresh s H.nxt H'.nxt → Dom s (H.nxt + Zb) → LR s args cs.toList →
    Calls P f cs s.w fun e w' => ∃ c s', e = .returned c ∧ s'.w = w' ∧ Step H s H' s' ∧ VR s' v c

theorem start_lr {s : CS} {args : List AV} {cs : Array Value} (h : LR s args cs.toList) (n : Nat) : LR s (args ++ List.replicate (n - args.length) (.tup [])) (cs ++ Array.replicate (n - cs.size) undef).toList := by
  have hl : args.length = cs.size := by have := h.1; simpa using this
  rw [Array.toList_append, hl]
  refine h.append ⟨by simp, fun i x c h1 h2 => ?_⟩
  rw [List.getElem?_replicate] at h1
  rw [Array.toList_replicate, List.getElem?_replicate] at h2
  split at h1
  · rename_i hlt
    rw [if_pos hlt] at h2
    cases h1; cases h2; exact VR.undef
  · cases h1

theorem body_calls (hΓ : Γ.Ok P) (hc : CallOK P Γ call) (hm : CallMono call) {f : Nat} {F : Func} (hF : P.funcs[f]? = some F) {n : Nat} {args : List AV} {H H' : AH} {v : AV} (h : evBody Γ call n F args H = some (v, H')) (s : CS) (cs : Array Value)
    (hi : Inv H s) (hf : Fresh s H.nxt H'.nxt) (hz : Dom s (H.nxt + Zb)) (hl : LR s args cs.toList) :
    Calls P f cs s.w fun e w' => ∃ c s', e = .returned c ∧ s'.w = w' ∧ Step H s H' s' ∧ VR s' v c := by
  unfold evBody at h
  split at h
  · cases h
  · rename_i c hb
    split at h
    · cases h
    · rename_i e st hne hC
      split at h
      · rename_i H2 hD
        have hres : ∃ l, resA Γ st.t H2 F.results.toList = some l ∧ tupA l = v ∧ H2 = H' := by
          split at h
          · rename_i u hr; cases h; exact ⟨[v], hr, rfl, rfl⟩
          · rename_i l hnl hr
            cases h
            refine ⟨l, hr, ?_, rfl⟩
            match l, hnl with
            | [], _ => rfl
            | [u], hnl => exact absurd rfl (hnl u)
            | u :: u' :: r, _ => rfl
          · cases h
        obtain ⟨l, hr, hv, rfl⟩ := hres
        have hm1 := evC_mono hm _ _ _ _ _ hC
        have hm2 := evDefers_mono hm _ _ _ hD
        simp only at hm1
        refine calls_of_wp_defers hF hb ?_
        refine (evC_ok hΓ hc hm n).1 c _ st e hC s { tmps := cs ++ Array.replicate (F.ntmps - cs.size) undef, defers := [] } ⟨hi, start_lr hl F.ntmps, trivial⟩ (hf.sub (Nat.le_refl _) hm2) hz _ fun a1 s1 hs1 st1 => ?_
        have key : Leaves P F a1.tmps (fun e w' => ∃ c s', e = .returned c ∧ s'.w = w' ∧ Step H s H2 s' ∧ VR s' v c) a1.defers .returning s1.w := by
          refine leaves_ok hΓ hc hm F a1.tmps _ st.d st.H H2 hD s1 a1.defers hs1.inv hs1.d (st1.fresh hf) (st1.dom hz) fun s2 st2 => ?_
          have hvr : ∀ v c, VR s1 v c → VR s2 v c := fun v c => st2.vr hs1.inv (st1.fresh hf)
          obtain ⟨r, r1, r2⟩ := results_ok hΓ st2.inv (a := a1) (hs1.t.mono hvr) F l hr
          rw [hv] at r2
          exact ⟨r, r1, r, s2, rfl, rfl, st1.trans st2, r2⟩
        cases e with
        | normal => exact key
        | exit k => exact absurd rfl (hne k)
        | ret => exact key
      · cases h
    · cases h

theorem body_callsD (hΓ : Γ.Ok P) (hc : CallOK P Γ call) (hm : CallMono call) {f : Nat} {F : Func} (hF : P.funcs[f]? = some F) (hnd : F.body.any noDefer = true) {n : Nat} {args : List AV} {H H' : AH} {v : AV} (h : evBody Γ call n F args H = some (v, H')) (s : CS) (cs : Array Value) (u : FrameMode)
    (hi : Inv H s) (hf : Fresh s H.nxt H'.nxt) (hz : Dom s (H.nxt + Zb)) (hl : LR s args cs.toList) :
    CallsD P f cs u s.w fun e u' w' => ∃ c s', e = .returned c ∧ u' = u ∧ s'.w = w' ∧ Step H s H' s' ∧ VR s' v c := by
  unfold evBody at h
  split at h
  · cases h
  · rename_i c hb
    rw [hb] at hnd
    split at h
    · cases h
    · rename_i e st hne hC
      have hd := evC_nodef n c _ st e hnd hC
      simp only at hd
      rw [hd] at h
      simp only [evDefers] at h
      have hres : ∃ l, resA Γ st.t st.H F.results.toList = some l ∧ tupA l = v ∧ st.H = H' := by
        split at h
        · rename_i u hr; cases h; exact ⟨[v], hr, rfl, rfl⟩
        · rename_i l hnl hr
          cases h
          refine ⟨l, hr, ?_, rfl⟩
          match l, hnl with
          | [], _ => rfl
          | [u], hnl => exact absurd rfl (hnl u)
          | u :: u' :: r, _ => rfl
        · cases h
      obtain ⟨l, hr, hv, rfl⟩ := hres
      refine (callsD_of_wp (R := fun e w' => ∃ c s', e = .returned c ∧ s'.w = w' ∧ Step H s st.H s' ∧ VR s' v c) hF hb ?_).mono fun e u' w' ⟨h1, c, s', h2, h3, h4, h5⟩ => ⟨c, s', h2, h1, h3, h4, h5⟩
      refine (evC_ok hΓ hc hm n).1 c _ st e hC s { tmps := cs ++ Array.replicate (F.ntmps - cs.size) undef, defers := [] } ⟨hi, start_lr hl F.ntmps, trivial⟩ hf hz _ fun a1 s1 hs1 st1 => ?_
      have hdn : a1.defers = [] := by
        have h1 := hs1.d
        rw [hd] at h1
        cases hq : a1.defers with
        | nil => rfl
        | cons D q => rw [hq] at h1; exact h1.elim
      obtain ⟨r, r1, r2⟩ := results_ok hΓ hs1.inv (a := a1) hs1.t F l hr
      rw [hv] at r2
      have key : a1.defers = [] ∧ ∃ v', (results F a1.tmps).run P s1.w = .ok v' s1.w ∧ (fun e w' => ∃ c s', e = Ending.returned c ∧ s'.w = w' ∧ Step H s st.H s' ∧ VR s' v c) (.returned v') s1.w := ⟨hdn, r, r1, r, s1, rfl, rfl, st1, r2⟩
      cases e with
      | normal => exact key
      | exit k => exact absurd rfl (hne k)
      | ret => exact key
    · cases h

theorem evF_ok (hΓ : Γ.Ok P) (hp : ∀ f p, Γ.prim f = some p → PrimOK P f p) : ∀ n, CallOK P Γ (evF Γ n) := by
  have hm := evF_mono (Γ := Γ) fun f p h => (hp f p h).mono
  intro n
  induction n with
  | zero => exact ⟨(fun f args H r h => by cases h), (fun f args H v H' h => by cases h), (fun f args H v H' _ _ h => by cases h)⟩
  | succ n ih =>
    refine ⟨fun f args H r h => ?_, fun f args H v H' h s cs hi hf hz hl => ?_, fun f args H v H' hpn hnd h s cs u hi hf hz hl => ?_⟩
    · rw [evF] at h
      split at h
      · rename_i p h1; exact (hp f p h1).able
      · split at h
        · cases h
        · rename_i F hF; exact ⟨F, hΓ.fn f F hF⟩
    · rw [evF] at h
      split at h
      · rename_i p h1; exact (hp f p h1).calls _ _ _ _ h s cs hi hf hz hl
      · split at h
        · cases h
        · rename_i F hF
          have hPF := (hΓ.fn f F hF).1
          split at h
          · split at h
            · rename_i v1 H1 hb
              simp only [Option.map_eq_some_iff] at h
              obtain ⟨y, hy, h⟩ := h
              cases h
              have hi1 : Inv ⟨H.nxt + Zb, H.nxt + Zb, H.bl⟩ s := ⟨Nat.le_refl _, hi.rlt, hi.ilt, fun k B hk => Nat.lt_of_lt_of_le (hi.nlt k B hk) (Nat.le_add_right _ _), hi.blk, hi.inj⟩
              have hdz : ∀ k, Dom s (H.nxt + Zb + k) := fun k id hid => hz id (by omega)
              refine (body_calls hΓ ih (hm n) hPF hb s cs hi1 (fun id h1 _ => hz id h1) (hdz Zb) hl).mono fun e w' ⟨c, s1, h1, h2, h3, h4⟩ => ?_
              obtain ⟨q1, q2⟩ := quiet_ok hi hz h3
              exact ⟨c, s.quiet s1, h1, h2, q1, q2 _ _ _ _ hy h4⟩
            · cases h
          · exact body_calls hΓ ih (hm n) hPF h s cs hi hf hz hl
    · rw [evF] at h
      rw [hpn] at h
      simp only at h
      split at h
      · cases h
      · rename_i F hF
        have hPF := (hΓ.fn f F hF).1
        have hnd' : F.body.any noDefer = true := by rw [hF] at hnd; exact hnd
        split at h
        · split at h
          · rename_i v1 H1 hb
            simp only [Option.map_eq_some_iff] at h
            obtain ⟨y, hy, h⟩ := h
            cases h
            have hi1 : Inv ⟨H.nxt + Zb, H.nxt + Zb, H.bl⟩ s := ⟨Nat.le_refl _, hi.rlt, hi.ilt, fun k B hk => Nat.lt_of_lt_of_le (hi.nlt k B hk) (Nat.le_add_right _ _), hi.blk, hi.inj⟩
            have hdz : ∀ k, Dom s (H.nxt + Zb + k) := fun k id hid => hz id (by omega)
            refine (body_callsD hΓ ih (hm n) hPF hnd' hb s cs u hi1 (fun id h1 _ => hz id h1) (hdz Zb) hl).mono fun e u' w' ⟨c, s1, h1, h0, h2, h3, h4⟩ => ?_
            obtain ⟨q1, q2⟩ := quiet_ok hi hz h3
            exact ⟨c, s.quiet s1, h1, h0, h2, q1, q2 _ _ _ _ hy h4⟩
          · cases h
        · exact body_callsD hΓ ih (hm n) hPF hnd' h s cs u hi hf hz hl

/-- The memory in which a law is called: nothing is told of it. -/
def H0 : AH := ⟨0, 0, fun _ => none⟩
def CS.start (w : World) : CS := ⟨w, fun _ => none, fun b => b < w.heap.size⟩
theorem inv_start (w : World) : Inv H0 (CS.start w) := ⟨Nat.le_refl _, (fun id loc h => by cases h), fun b h => h, (fun id B h => by cases h), (fun id B h => by cases h), fun id id' B B' loc loc' h => by cases h⟩
/-- A law that the interpreter finds true is true. -/
theorem law_calls (hΓ : Γ.Ok P) (hp : ∀ f p, Γ.prim f = some p → PrimOK P f p) {n f : Nat} {args : List AV} {v : AV} {H' : AH} (h : evF Γ n f args H0 = some (v, H')) (w : World) (cs : Array Value) (hl : LR (CS.start w) args cs.toList) :
    Calls P f cs w fun e w' => ∃ c s', e = .returned c ∧ VR s' v c ∧ RowKit.Below w.heap.size w w' := by
  refine ((evF_ok hΓ hp n).calls f args H0 v H' h (CS.start w) cs (inv_start w) (fun _ _ _ => rfl) (fun _ _ => rfl) hl).mono fun e w' ⟨c, s', h1, h2, h3, h4⟩ => ?_
  subst h2
  refine ⟨c, s', h1, h4, h3.os, h3.tape, h3.output, h3.hs, fun k hk => h3.frame k hk ?_⟩
  rintro ⟨id, loc, B, _, hB, _⟩
  cases hB
theorem law_true (hΓ : Γ.Ok P) (hp : ∀ f p, Γ.prim f = some p → PrimOK P f p) {n f : Nat} {args : List AV} {H' : AH} (h : evF Γ n f args H0 = some (.bool true, H')) (w : World) (cs : Array Value) (hl : LR (CS.start w) args cs.toList) :
    Calls P f cs w fun e w' => e = .returned (.bool true) ∧ RowKit.Below w.heap.size w w' :=
  (law_calls hΓ hp h w cs hl).mono fun e w' ⟨c, s', h1, h2, h3⟩ => ⟨by rw [h1, h2.of_bool], h3⟩
#print axioms law_true
end
end Go.Proofs.YtkgghgigjeihjaaGreat.Sim
