/- The count of blocks never falls. -/
import Derived.Test.YtkgghgigjeihjaaGreatS12
namespace Go.Proofs.YtkgghgigjeihjaaGreat.Sim
set_option linter.unusedVariables false
set_option linter.unusedSimpArgs false
section
variable {Γ : Ctx} {H H' : AH} {v : AV}

theorem append_mono {ats : List Nat} {x y : AV} (h : appendA Γ ats x y H = some (v, H')) : H.nxt ≤ H'.nxt := by
  unfold appendA at h
  repeat' (first | (cases h; done) | split at h)
  all_goals (cases h; simp [AH.new, AH.move])
theorem copy_mono {ats : List Nat} {x y : AV} (h : copyA Γ ats x y H = some (v, H')) : H.nxt ≤ H'.nxt := by
  unfold copyA at h
  repeat' (first | (cases h; done) | split at h)
  all_goals (cases h; simp)
theorem conv_mono {a b : Nat} {x : AV} (h : convA Γ a b x H = some (v, H')) : H.nxt ≤ H'.nxt := by
  unfold convA at h
  repeat' (first | (cases h; done) | split at h)
  all_goals first
    | (cases h; simp [AH.new]; done)
    | (simp only [Option.map_eq_some_iff] at h; obtain ⟨_, _, h⟩ := h; cases h; exact Nat.le_refl _)
theorem makeSlice_mono {T : Nat} {x y : AV} (h : makeSliceA Γ T x y H = some (v, H')) : H.nxt ≤ H'.nxt := by
  unfold makeSliceA at h
  repeat' (first | (cases h; done) | split at h)
  all_goals (cases h; simp [AH.new])
theorem range_mono {T : Nat} {x : AV} (h : rangeA Γ T x H = some (v, H')) : H.nxt ≤ H'.nxt := by
  unfold rangeA at h
  repeat' (first | (cases h; done) | split at h)
  all_goals (cases h; simp [AH.new])
theorem next_mono {x : AV} {b : Bool} (h : nextA x b H = some (v, H')) : H.nxt ≤ H'.nxt := by
  unfold nextA at h
  repeat' (first | (cases h; done) | split at h)
  all_goals (cases h; exact Nat.le_refl _)
theorem mapPut_mono {T : Nat} {x k y : AV} (h : mapPutA Γ T x k y H = some H') : H.nxt ≤ H'.nxt := by
  unfold mapPutA at h
  repeat' (first | (cases h; done) | split at h)
  all_goals (cases h; exact Nat.le_refl _)
theorem delete_mono {ats : List Nat} {x k : AV} (h : deleteA Γ ats x k H = some H') : H.nxt ≤ H'.nxt := by
  unfold deleteA at h
  repeat' (first | (cases h; done) | split at h)
  all_goals (cases h; exact Nat.le_refl _)
theorem st_mono {T : Nat} {p x : AV} (h : stAt Γ T p x H = some H') : H.nxt ≤ H'.nxt := by
  unfold stAt AH.put at h
  repeat' (first | (cases h; done) | split at h)
  all_goals (cases h; exact Nat.le_refl _)
theorem ev1_mono {t : List AV} {op : Op} (h : ev1 Γ t op H = some (v, H')) : H.nxt ≤ H'.nxt := by
  unfold ev1 at h
  repeat' (first | (cases h; done) | split at h)
  all_goals first
    | (cases h; simp [AH.new]; done)
    | exact append_mono h
    | exact copy_mono h
    | exact conv_mono h
    | exact makeSlice_mono h
    | exact range_mono h
    | exact next_mono h
    | (simp only [Option.map_eq_some_iff] at h; obtain ⟨_, h1, h⟩ := h; cases h; first | exact Nat.le_refl _ | exact st_mono h1 | exact mapPut_mono h1 | exact delete_mono h1 | simp [AH.new])

def CallMono (call : CallF) : Prop := ∀ f args H v H', call f args H = some (v, H') → H.nxt ≤ H'.nxt
theorem evOp_mono {call : CallF} (hc : CallMono call) {t : List AV} {o : Oper} (h : evOp Γ call t o H = some (v, H')) : H.nxt ≤ H'.nxt := by
  unfold evOp at h
  split at h
  · repeat' (first | (cases h; done) | split at h)
    all_goals exact hc _ _ _ _ _ h
  · exact ev1_mono h
theorem evOps_mono {call : CallF} (hc : CallMono call) {ops : Array Oper} : ∀ (l : List Oper) (st st' : ASt), evOps Γ call ops l st = some st' → st.H.nxt ≤ st'.H.nxt
  | [], st, st', h => by cases h; exact Nat.le_refl _
  | o :: r, st, st', h => by
    rw [evOps] at h
    split at h
    · split at h
      · have := evOps_mono hc r _ _ h; exact this
      · split at h
        · rename_i h1
          have h2 := evOps_mono hc r _ _ h
          exact Nat.le_trans (evOp_mono hc h1) h2
        · cases h
    · have := evOps_mono hc r _ _ h; exact this
theorem evDrawOp_mono {call : CallF} (hc : CallMono call) {ops : List Oper} {an : List Nat} {fl i : Nat} {o : Oper} {st st' : DSt} (h : evDrawOp Γ call ops an fl i o st = some st') : st.c ≤ st'.c := by
  unfold evDrawOp at h
  split at h
  · split at h
    · repeat' (first | (cases h; done) | split at h)
      all_goals (cases h; exact Nat.le_refl _)
    · split at h
      · split at h
        · rename_i h1; cases h; exact evOp_mono hc h1
        · cases h
      · split at h
        · rename_i h1
          split at h
          · cases h; exact Nat.le_refl _
          · cases h; exact evOp_mono hc h1
        · cases h
  · cases h; exact Nat.le_refl _
theorem evDrawOps_mono {call : CallF} (hc : CallMono call) {ops : List Oper} {an : List Nat} {fl : Nat} : ∀ (l : List Oper) (i : Nat) (st st' : DSt), evDrawOps Γ call ops an fl l i st = some st' → st.c ≤ st'.c
  | [], i, st, st', h => by cases h; exact Nat.le_refl _
  | o :: r, i, st, st', h => by
    rw [evDrawOps] at h
    split at h
    · rename_i h1; exact Nat.le_trans (evDrawOp_mono hc h1) (evDrawOps_mono hc r _ _ _ h)
    · cases h
theorem evDraw_mono {call : CallF} (hc : CallMono call) {ops : Array Oper} {st st' : ASt} (h : evDraw Γ call ops st = some st') : st.H.nxt ≤ st'.H.nxt := by
  unfold evDraw at h
  simp only at h
  split at h
  · split at h
    · rename_i h1
      split at h
      · cases h; exact evDrawOps_mono hc _ _ _ _ h1
      · cases h
    · cases h
  · cases h
theorem evC_mono {call : CallF} (hc : CallMono call) : ∀ (n : Nat) (c : Code) (st st' : ASt) (e : AX), evC Γ call n c st = some (e, st') → st.H.nxt ≤ st'.H.nxt := by
  intro n
  induction n with
  | zero => intro c st st' e h; cases h
  | succ n ih =>
    intro c st st' e h
    cases c with
    | skip => simp only [evC] at h; cases h; exact Nat.le_refl _
    | label l => simp only [evC] at h; cases h; exact Nat.le_refl _
    | ret => simp only [evC] at h; cases h; exact Nat.le_refl _
    | exit id => simp only [evC] at h; cases h; exact Nat.le_refl _
    | region id ops d =>
      cases d with
      | false =>
        simp only [evC, Option.map_eq_some_iff] at h
        obtain ⟨s, h1, h⟩ := h; cases h; exact evOps_mono hc _ _ _ h1
      | true =>
        simp only [evC, Option.map_eq_some_iff] at h
        obtain ⟨s, h1, h⟩ := h; cases h; exact evDraw_mono hc h1
    | seq a b =>
      simp only [evC] at h
      split at h
      · rename_i h1; exact Nat.le_trans (ih _ _ _ _ h1) (ih _ _ _ _ h)
      · exact ih _ _ _ _ h
    | cond x a b =>
      simp only [evC] at h
      split at h
      · exact ih _ _ _ _ h
      · exact ih _ _ _ _ h
      · cases h
    | block id b =>
      simp only [evC] at h
      split at h
      · rename_i h1; cases h; exact ih _ _ _ _ h1
      · exact ih _ _ _ _ h
    | loop b =>
      simp only [evC] at h
      split at h
      · rename_i h1; exact Nat.le_trans (ih _ _ _ _ h1) (ih _ _ _ _ h)
      · exact ih _ _ _ _ h
    | scope b => simp only [evC] at h; exact ih _ _ _ _ h
    | goto l => simp only [evC] at h; cases h
    | refuse w => simp only [evC] at h; cases h
    | rangeFunc f p a b => simp only [evC] at h; cases h
theorem evDefers_mono {call : CallF} (hc : CallMono call) : ∀ (l : List (AV × List AV)) (H H' : AH), evDefers Γ call l H = some H' → H.nxt ≤ H'.nxt
  | [], H, H', h => by cases h; exact Nat.le_refl _
  | (g, l) :: r, H, H', h => by
    rw [evDefers] at h
    split at h
    · split at h
      · cases h
      · split at h
        · rename_i h1; exact Nat.le_trans (hc _ _ _ _ _ h1) (evDefers_mono hc r _ _ h)
        · cases h
    · cases h
theorem evBody_mono {call : CallF} (hc : CallMono call) {n : Nat} {F : Func} {args : List AV} (h : evBody Γ call n F args H = some (v, H')) : H.nxt ≤ H'.nxt := by
  unfold evBody at h
  split at h
  · cases h
  · split at h
    · cases h
    · rename_i h1
      split at h
      · rename_i h2
        have := Nat.le_trans (evC_mono hc _ _ _ _ _ h1) (evDefers_mono hc _ _ _ h2)
        split at h
        · cases h; exact this
        · cases h; exact this
        · cases h
      · cases h
    · cases h
theorem evF_mono (hp : ∀ f p, Γ.prim f = some p → ∀ args H v H', p args H = some (v, H') → H.nxt ≤ H'.nxt) : ∀ n, CallMono (evF Γ n) := by
  intro n
  induction n with
  | zero => intro f args H v H' h; cases h
  | succ n ih =>
    intro f args H v H' h
    rw [evF] at h
    split at h
    · rename_i p h1; exact hp _ _ h1 _ _ _ _ h
    · split at h
      · cases h
      · split at h
        · split at h
          · simp only [Option.map_eq_some_iff] at h
            obtain ⟨r, _, h⟩ := h; cases h; exact Nat.le_refl _
          · cases h
        · exact evBody_mono ih h
end
end Go.Proofs.YtkgghgigjeihjaaGreat.Sim
