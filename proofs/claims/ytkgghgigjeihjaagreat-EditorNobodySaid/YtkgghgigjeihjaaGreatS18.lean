/- Code. -/
import Derived.Test.YtkgghgigjeihjaaGreatS17
import Derived.LoopN
import Derived.Scope
namespace Go.Proofs.YtkgghgigjeihjaaGreat.Sim
set_option linter.unusedVariables false
set_option linter.unusedSimpArgs false
section
variable {P : Program} {Γ : Ctx} {call : CallF}

theorem evDraw_ok (hΓ : Γ.Ok P) (hc : CallOK P Γ call) (hm : CallMono call) {ops : Array Oper} {st st' : ASt} (h : evDraw Γ call ops st = some st') {s : CS} {a : Act} (hs : SR s st a) (hf : Fresh s st.H.nxt st'.H.nxt) (hz : Dom s (st.H.nxt + Zb))
    (Q : Exit → Act → World → Prop) (hQ : ∀ a' s', SR s' st' a' → Step st.H s st'.H s' → Q .normal a' s'.w) (id : Nat) : (Code.region id ops true).wp P Q a s.w := by
  unfold evDraw at h
  simp only at h
  split at h
  · rename_i hok
    split at h
    · rename_i r hr
      split at h
      · rename_i hrc
        cases h
        obtain ⟨D, hD0, hDn, hstep⟩ := trace_of ops.toList 0 _ r hr (fun j => by simp)
        have hch : ∀ i, ∃ v, ∀ o, ops.toList[i]? = some o → OpF Γ call ops.toList (ancs ops.toList []) st.H.floor i o (D i) (D (i + 1)) v := fun i => by
          cases ho : ops.toList[i]? with
          | none => exact ⟨.tup [], fun o h => by cases h⟩
          | some o =>
            obtain ⟨v, hv⟩ := hstep i o (Nat.zero_le _) ho
            exact ⟨v, fun o' h => by cases h; exact hv⟩
        obtain ⟨V, hV⟩ := Classical.axiomOfChoice hch
        have T : Trace Γ call ops.toList (ancs ops.toList []) st.H.floor D V := ⟨hm, hok, rfl, fun i o ho => hV i o ho⟩
        simp only [Nat.zero_add] at hDn
        have hc0 : (D 0).c = st.H.nxt := by rw [hD0]
        have hcn : (D ops.toList.length).c = r.c := by rw [hDn]
        obtain ⟨st1, hv1⟩ := step_world hs.inv { s.w with drawn := s.w.drawn + 1 } rfl rfl rfl rfl
        obtain ⟨q', g1, g2, g3, g4⟩ := next_W ops.toList (ancs ops.toList []) D 0 (Nat.zero_le _)
        have hle : st.H.nxt ≤ r.c := by rw [← hc0, ← hcn]; exact T.c_mono (Nat.zero_le _) (Nat.le_refl _)
        have key := draw_main (V := V) (s0 := s) (d0 := a.defers) hΓ hc T hc0 hs.inv.fln (by rw [hcn]; exact hrc) hz Q (fun t a' s' h1 h2 h3 h4 => hQ a' s' (by
            refine ⟨?_, ?_, ?_⟩
            · rw [hcn, hDn] at h4; exact h4.inv
            · rw [h2, hDn] at h1; exact h1
            · rw [h3]; rw [hcn, hDn] at h4
              exact hs.d.mono fun v c => h4.vr hs.inv hf) (by rw [hcn, hDn] at h4; exact h4)) ops.toList.length (Array.replicate ops.toList.length false) 0 q' st.t a { s with w := { s.w with drawn := s.w.drawn + 1 } } ?_ ?_
        · refine wp_region_any hΓ.mixed ?_
          simpa using key
        · have hoff : ∀ j, lst? (Array.replicate ops.toList.length false) j = false := fun j => by
            unfold lst?; simp only [Array.getD_eq_getD_getElem?, Array.getElem?_replicate]; split <;> rfl
          refine ⟨by simp, (fun i o e h => by rw [hoff] at h; cases h), Nat.zero_le _, g2, (fun j _ => by rw [hoff]; simp), g3, g4, .inl rfl, by rw [hD0], fun k B h => ?_, hs.t.mono hv1, by rw [hD0], fun x => .inr ⟨(fun m o _ _ => by simp only [hoff]; simp), by rw [hD0]⟩, rfl, ?_, fun j hj _ => ?_⟩
          · rw [hD0] at h ⊢; exact hs.inv.nlt k B h
          · obtain ⟨hb, new, hn, hall⟩ := T.grow (i := 0) (j := q') g1 g2 g3
            have hbl : visB (lst? (Array.replicate ops.toList.length false)) (D q').base (D q').ds = st.H.bl := by
              funext k
              rw [hn, hD0]
              simp only [List.append_nil]
              rw [hb, hD0]
              have hlo : ∀ d ∈ new, st.H.nxt ≤ d.lo := fun d hd => by have := (hall d hd).1; rw [hc0] at this; exact this
              by_cases hk : k < st.H.nxt
              · exact visB_out fun d hd => .inl (by have := hlo d hd; omega)
              · have hnone : st.H.bl k = none := by
                  cases hB : st.H.bl k with
                  | none => rfl
                  | some B => exact absurd (hs.inv.nlt k B hB) hk
                rw [hnone]
                cases hv : visB (lst? (Array.replicate ops.toList.length false)) st.H.bl new k with
                | none => rfl
                | some B => rw [visB_none (fun d _ => hoff _) hv] at hnone; cases hnone
            rw [hbl, hcn]
            refine ⟨st1.os, st1.tape, st1.output, st1.hs, hle, fun id _ => rfl, st1.frame, st1.imono, st1.inew, fun id loc h1 h2 h3 => ?_, rfl, fun _ _ _ => rfl, fun k B _ h => ⟨B, h⟩, ?_⟩
            · have := hf id h1 h2
              have h3' : s.ρ id = some loc := h3
              rw [this] at h3'; cases h3'
            · exact ⟨Nat.le_trans hs.inv.fln hle, st1.inv.rlt, st1.inv.ilt, fun k B h => Nat.lt_of_lt_of_le (hs.inv.nlt k B h) hle, st1.inv.blk, st1.inv.inj⟩
          · refine Fresh.sub (s := { s with w := { s.w with drawn := s.w.drawn + 1 } }) (a := st.H.nxt) (b := r.c) hf ?_ ?_
            · rw [← hc0]; exact T.c_mono (Nat.zero_le _) (by omega)
            · rw [← hcn]; exact T.c_mono (by omega) (Nat.le_refl _)
        · have := List.length_filter_le (fun i => !lst? (Array.replicate ops.toList.length false) i) (List.range ops.toList.length)
          simpa using this
      · cases h
    · cases h
  · cases h

def AX.ex : AX → Exit
  | .normal => .normal
  | .exit id => .exit id
  | .ret => .ret

theorem SR.next {s s' : CS} {st st' : ASt} {a : Act} (h : SR s' st' a) : True := trivial

theorem evC_ok (hΓ : Γ.Ok P) (hc : CallOK P Γ call) (hm : CallMono call) : ∀ (n : Nat),
    (∀ (c : Code) (st st' : ASt) (e : AX), evC Γ call n c st = some (e, st') → ∀ (s : CS) (a : Act), SR s st a → Fresh s st.H.nxt st'.H.nxt → Dom s (st.H.nxt + Zb) → ∀ (Q : Exit → Act → World → Prop),
      (∀ a' s', SR s' st' a' → Step st.H s st'.H s' → Q e.ex a' s'.w) → c.wp P Q a s.w) ∧
    (∀ (b : Code) (st st' : ASt) (e : AX), evC Γ call n (.loop b) st = some (e, st') → ∃ m, ∀ (s : CS) (a : Act), SR s st a → Fresh s st.H.nxt st'.H.nxt → Dom s (st.H.nxt + Zb) → ∀ (Q : Exit → Act → World → Prop),
      (∀ a' s', SR s' st' a' → Step st.H s st'.H s' → Q e.ex a' s'.w) → Code.rounds P b Q m a s.w) := by
  intro n
  induction n with
  | zero => exact ⟨(fun c st st' e h => by cases h), (fun b st st' e h => by cases h)⟩
  | succ n ih =>
    have loops : ∀ (b : Code) (st st' : ASt) (e : AX), evC Γ call (n + 1) (.loop b) st = some (e, st') → ∃ m, ∀ (s : CS) (a : Act), SR s st a → Fresh s st.H.nxt st'.H.nxt → Dom s (st.H.nxt + Zb) → ∀ (Q : Exit → Act → World → Prop),
        (∀ a' s', SR s' st' a' → Step st.H s st'.H s' → Q e.ex a' s'.w) → Code.rounds P b Q m a s.w := by
      intro b st st' e h
      simp only [evC] at h
      split at h
      · rename_i st1 h1
        obtain ⟨m, hm'⟩ := ih.2 b st1 st' e h
        refine ⟨m + 1, fun s a hs hf hz Q hQ => ?_⟩
        have hmono := evC_mono hm n _ _ _ _ h
        have hmono1 := evC_mono hm n _ _ _ _ h1
        refine ih.1 b st st1 .normal h1 s a hs (hf.sub (Nat.le_refl _) hmono) hz _ fun a1 s1 hs1 st1' => ?_
        exact hm' s1 a1 hs1 (st1'.fresh hf) (st1'.dom hz) Q fun a' s' h2 h3 => hQ a' s' h2 (st1'.trans h3)
      · rename_i hne
        refine ⟨1, fun s a hs hf hz Q hQ => ?_⟩
        refine ih.1 b st st' e h s a hs hf hz _ fun a1 s1 hs1 st1' => ?_
        cases e with
        | normal => exact absurd h (hne st')
        | exit id => exact hQ a1 s1 hs1 st1'
        | ret => exact hQ a1 s1 hs1 st1'
    refine ⟨?_, loops⟩
    intro c st st' e h s a hs hf hz Q hQ
    cases c with
    | skip => simp only [evC] at h; cases h; exact wp_skip (hQ a s hs (Step.refl hs.inv))
    | label l => simp only [evC] at h; cases h; exact wp_label (hQ a s hs (Step.refl hs.inv))
    | ret => simp only [evC] at h; cases h; exact wp_ret (hQ a s hs (Step.refl hs.inv))
    | exit id => simp only [evC] at h; cases h; exact wp_exit (hQ a s hs (Step.refl hs.inv))
    | region id ops d =>
      cases d with
      | false =>
        simp only [evC, Option.map_eq_some_iff] at h
        obtain ⟨r, h1, h⟩ := h
        cases h
        refine wp_region ?_
        rw [List.range_eq_range']
        have := evOps_ok hΓ hc hm ops.toList 0 st st' h1 (fun j => by simp) s a hs hf hz Q hQ
        simpa using this
      | true =>
        simp only [evC, Option.map_eq_some_iff] at h
        obtain ⟨r, h1, h⟩ := h
        cases h
        exact evDraw_ok hΓ hc hm h1 hs hf hz Q hQ id
    | seq x y =>
      simp only [evC] at h
      split at h
      · rename_i st1 h1
        have hmono := evC_mono hm n _ _ _ _ h
        refine wp_seq (ih.1 x st st1 .normal h1 s a hs (hf.sub (Nat.le_refl _) hmono) hz _ fun a1 s1 hs1 st1' => ?_)
        exact ih.1 y st1 st' e h s1 a1 hs1 (st1'.fresh hf) (st1'.dom hz) Q fun a' s' h2 h3 => hQ a' s' h2 (st1'.trans h3)
      · rename_i hne
        refine wp_seq (ih.1 x st st' e h s a hs hf hz _ fun a1 s1 hs1 st1' => ?_)
        cases e with
        | normal => exact absurd h (hne st')
        | exit id => exact hQ a1 s1 hs1 st1'
        | ret => exact hQ a1 s1 hs1 st1'
    | cond x y z =>
      simp only [evC] at h
      split at h
      · rename_i hx
        exact wp_cond (opv_vr hs.t hx).of_bool (ih.1 y st st' e h s a hs hf hz Q hQ)
      · rename_i hx
        exact wp_cond (opv_vr hs.t hx).of_bool (ih.1 z st st' e h s a hs hf hz Q hQ)
      · cases h
    | block id b =>
      simp only [evC] at h
      split at h
      · rename_i k st1 h1
        cases h
        refine wp_block (ih.1 b st st' (.exit k) h1 s a hs hf hz _ fun a1 s1 hs1 st1' => ?_)
        have hq := hQ a1 s1 hs1 st1'
        simp only [AX.ex, Exit.inBlock]
        by_cases hk : k = id
        · rw [if_pos hk] at hq ⊢; exact hq
        · rw [if_neg hk] at hq ⊢; exact hq
      · rename_i hne
        refine wp_block (ih.1 b st st' e h s a hs hf hz _ fun a1 s1 hs1 st1' => ?_)
        cases e with
        | normal => exact hQ a1 s1 hs1 st1'
        | exit k => exact absurd h (hne k st')
        | ret => exact hQ a1 s1 hs1 st1'
    | loop b =>
      obtain ⟨m, hm'⟩ := loops b st st' e h
      exact wp_loop_rounds m (hm' s a hs hf hz Q hQ)
    | scope b =>
      simp only [evC] at h
      refine wp_scope_straight (ih.1 b st st' e h s a hs hf hz _ fun a1 s1 hs1 st1' => ?_)
      cases e with
      | normal => exact hQ a1 s1 hs1 st1'
      | exit k => exact hQ a1 s1 hs1 st1'
      | ret => exact hQ a1 s1 hs1 st1'
    | goto l => simp only [evC] at h; cases h
    | refuse w => simp only [evC] at h; cases h
    | rangeFunc f p x y => simp only [evC] at h; cases h
end
end Go.Proofs.YtkgghgigjeihjaaGreat.Sim
