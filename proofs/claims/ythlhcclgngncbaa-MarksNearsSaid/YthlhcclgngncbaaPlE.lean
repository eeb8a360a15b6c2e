/- Plain laws: Between, Near, Same; the law's pure statement. -/
import Derived.Test.YthlhcclgngncbaaPlD
import Derived.Test.YthlhcclgngncbaaQMnx
namespace Go.Proofs.Ythlhcclgngncbaa.Pl
open Go.RowKit Go.Proofs.Ythlhcclgngncbaa.QMn Go.Proofs.YthlhcclgngncbaaW.PrintWords Go.Proofs.YthlhcclgngncbaaW.PrintLast Go.Proofs.YthlhcclgngncbaaW.PrintMore
set_option linter.unusedVariables false
set_option linter.unusedSimpArgs false

/-- A sorted list is told by what stands at each place, in order. -/
theorem uniq : ∀ (a b : List S26), Srt a → Srt b → (∀ v : Int, a.filter (fun x => decide (x.f1 = v)) = b.filter (fun x => decide (x.f1 = v))) → a = b := by
  intro a
  induction a with
  | nil =>
    intro b ha hb h
    cases b with
    | nil => rfl
    | cons y b =>
      have := h y.f1
      simp at this
  | cons x a ih =>
    intro b ha hb h
    cases b with
    | nil =>
      have := h x.f1
      simp at this
    | cons y b =>
      have hxy : x.f1 = y.f1 := by
        have hx : x ∈ (y :: b).filter (fun z => decide (z.f1 = x.f1)) := by rw [← h x.f1]; simp
        have hy : y ∈ (x :: a).filter (fun z => decide (z.f1 = y.f1)) := by rw [h y.f1]; simp
        have hx' := (List.mem_filter.1 hx).1
        have hy' := (List.mem_filter.1 hy).1
        have h1 : y.f1 ≤ x.f1 := by
          rcases List.mem_cons.1 hx' with rfl | g
          · exact Int.le_refl _
          · exact (List.pairwise_cons.1 hb).1 x g
        have h2 : x.f1 ≤ y.f1 := by
          rcases List.mem_cons.1 hy' with rfl | g
          · exact Int.le_refl _
          · exact (List.pairwise_cons.1 ha).1 y g
        omega
      have h1 := h x.f1
      rw [List.filter_cons_of_pos (by simp), List.filter_cons_of_pos (by simp [hxy])] at h1
      obtain ⟨rfl, _⟩ := List.cons.inj h1
      congr 1
      refine ih b (List.pairwise_cons.1 ha).2 (List.pairwise_cons.1 hb).2 (fun v => ?_)
      have hv := h v
      by_cases e : x.f1 = v
      · rw [List.filter_cons_of_pos (by simp [e]), List.filter_cons_of_pos (by simp [e])] at hv
        exact (List.cons.inj hv).2
      · rw [List.filter_cons_of_neg (by simp [e]), List.filter_cons_of_neg (by simp [e])] at hv
        exact hv

/-- marks.Between. -/
theorem between_ev (a b : Int) (L : List S26) (hB : Bd L) (hl : L.length ≤ 40) (C : List S26 → Prop) (hC : ∀ Z, Srt Z → St (L.filter fun x => decide (a ≤ x.f1) && decide (x.f1 ≤ b)) Z → C Z) :
    ∀ (R P O : List S26), L = P ++ R → O = P.filter (fun x => decide (a ≤ x.f1) && decide (x.f1 ≤ b)) →
    ∃ Z, Ev (fun k => marks_Between.l0 k a b O L L.length P.length) Z ∧ C Z := by
  intro R
  induction R with
  | nil =>
    intro P O hL hO
    rw [List.append_nil] at hL
    subst hL
    have hOB : Bd O := fun x hx => hB x (by rw [hO] at hx; exact (List.mem_filter.1 hx).1)
    have hOl : O.length ≤ 40 := by rw [hO]; exact Nat.le_trans (List.length_filter_le _ _) hl
    obtain ⟨Z, hZ, hS, hT⟩ := stable O hOB hOl
    refine ⟨Z, Ev.step (fun k => by rw [marks_Between.l0]) (neg (by omega) (Ev.bind (a := Z) ?_ (Ev.now _))), hC Z hS (by rw [← hO]; exact hT)⟩
    unfold api_Mark_13.f
    exact Ev.bind hZ (Ev.now _)
  | cons x R ih =>
    intro P O hL hO
    have hlen : L.length = P.length + (R.length + 1) := by rw [hL]; simp
    have hOl : O.length ≤ P.length := by rw [hO]; exact List.length_filter_le _ _
    have hrd : rd_T26 L P.length = x := by rw [hL]; exact rd_at P R x _ rfl
    have hw : wrap64 ((P.length : Int) + 1) = ((P ++ [x]).length : Int) := by rw [w64 (by omega) (by omega)]; simp
    have hL' : L = (P ++ [x]) ++ R := by rw [hL]; simp
    by_cases h1 : a ≤ x.f1
    · by_cases h2 : x.f1 ≤ b
      · obtain ⟨Z, hZ, hc⟩ := ih (P ++ [x]) (O ++ [x]) hL' (by rw [List.filter_append, hO]; congr 1; simp [h1, h2])
        refine ⟨Z, Ev.step (fun k => by rw [marks_Between.l0]) ?_, hc⟩
        rw [hrd, hw]
        exact pos (by omega) (pos (by omega) (pos (by omega) (pos h1 (pos h2 (pos (by omega) hZ)))))
      · obtain ⟨Z, hZ, hc⟩ := ih (P ++ [x]) O hL' (by rw [List.filter_append, hO]; simp [h2])
        refine ⟨Z, Ev.step (fun k => by rw [marks_Between.l0]) ?_, hc⟩
        rw [hrd, hw]
        exact pos (by omega) (pos (by omega) (pos (by omega) (pos h1 (neg h2 hZ))))
    · obtain ⟨Z, hZ, hc⟩ := ih (P ++ [x]) O hL' (by rw [List.filter_append, hO]; simp [h1])
      refine ⟨Z, Ev.step (fun k => by rw [marks_Between.l0]) ?_, hc⟩
      rw [hrd, hw]
      exact pos (by omega) (pos (by omega) (pos (by omega) (neg h1 hZ)))

/-- The reference's inner loop. -/
theorem refB_in (L : List S26) (b v : Int) (hl : L.length ≤ 40) (r : List S26) : ∀ (R P O : List S26), L = P ++ R → O.length + R.length ≤ 1000000 →
    Ev (fun k => stylusref22_Between.l0 k L b (O ++ R.filter (fun x => decide (x.f1 = v))) (wrap64 (v + 1))) r →
    Ev (fun k => stylusref22_Between.l1 k L b O v P.length) r := by
  intro R
  induction R with
  | nil =>
    intro P O hL hO h
    rw [List.append_nil] at hL
    subst hL
    refine Ev.step (fun k => by rw [stylusref22_Between.l1]) (neg (by omega) ?_)
    simpa using h
  | cons x R ih =>
    intro P O hL hO h
    have hlen : L.length = P.length + (R.length + 1) := by rw [hL]; simp
    have hrd : rd_T26 L P.length = x := by rw [hL]; exact rd_at P R x _ rfl
    have hw : wrap64 ((P.length : Int) + 1) = ((P ++ [x]).length : Int) := by rw [w64 (by omega) (by omega)]; simp
    have hL' : L = (P ++ [x]) ++ R := by rw [hL]; simp
    simp only [List.length_cons] at hO
    refine Ev.step (fun k => by rw [stylusref22_Between.l1]) ?_
    rw [hrd, hw]
    refine pos (by omega) (pos (by omega) ?_)
    by_cases e : x.f1 = v
    · refine pos e (pos (by omega) ?_)
      refine ih (P ++ [x]) (O ++ [x]) hL' (by simp; omega) ?_
      rw [List.filter_cons_of_pos (by simp [e])] at h
      simpa using h
    · refine neg e ?_
      refine ih (P ++ [x]) O hL' (by omega) ?_
      rw [List.filter_cons_of_neg (by simp [e])] at h
      exact h

theorem filt_filt (L : List S26) (v u : Int) : (L.filter fun x => decide (x.f1 = v)).filter (fun x => decide (x.f1 = u)) = if v = u then L.filter (fun x => decide (x.f1 = u)) else [] := by
  rw [List.filter_filter]
  by_cases h : v = u
  · subst h; simp
  · rw [if_neg h, List.filter_eq_nil_iff]
    intro x _
    simp; omega

/-- The reference's Between. -/
theorem refB_out (L : List S26) (a b : Int) (ha : 0 ≤ a) (hb : b ≤ 4096) (hl : L.length ≤ 40) :
    ∀ (d : Nat) (v : Int) (O : List S26), b + 1 - v ≤ d → a ≤ v → (v ≤ b + 1 ∨ O = []) → O.length ≤ L.length → Srt O → (∀ x ∈ O, x.f1 < v) → (∀ x ∈ O, x ∈ L) →
    (∀ u, O.filter (fun x => decide (x.f1 = u)) = if a ≤ u ∧ u < v ∧ u ≤ b then L.filter (fun x => decide (x.f1 = u)) else []) →
    ∃ Z, Ev (fun k => stylusref22_Between.l0 k L b O v) Z ∧ Srt Z ∧ ∀ u, Z.filter (fun x => decide (x.f1 = u)) = if a ≤ u ∧ u ≤ b then L.filter (fun x => decide (x.f1 = u)) else [] := by
  intro d
  induction d with
  | zero =>
    intro v O hd hav hvb hOl hS hlt hmem hf
    refine ⟨O, Ev.step (fun k => by rw [stylusref22_Between.l0]) (neg (by omega) (Ev.step (fun k => by rw [stylusref22_Between.j1]) (neg (by decide) (Ev.now _)))), hS, fun u => ?_⟩
    rw [hf u]
    by_cases h : a ≤ u ∧ u ≤ b
    · rw [if_pos h, if_pos (by omega)]
    · rw [if_neg h, if_neg (by omega)]
  | succ d ih =>
    intro v O hd hav hvb hOl hS hlt hmem hf
    by_cases hv : v ≤ b
    · have hO1 : (O ++ L.filter fun x => decide (x.f1 = v)).length ≤ L.length := by
        -- the part below v and the part at v are apart
        have h1 : (L.filter fun x => decide (x.f1 < v)).length + (L.filter fun x => decide (x.f1 = v)).length ≤ L.length := by
          have h2 : ∀ l : List S26, (l.filter fun x => decide (x.f1 < v)).length + (l.filter fun x => decide (x.f1 = v)).length ≤ l.length := by
            intro l
            induction l with
            | nil => simp
            | cons x l ihl =>
              simp only [List.filter_cons, List.length_cons]
              by_cases g1 : x.f1 < v
              · rw [if_pos (by simpa using g1), if_neg (by simp; omega)]; simp; omega
              · by_cases g2 : x.f1 = v
                · rw [if_neg (by simp; omega), if_pos (by simpa using g2)]; simp; omega
                · rw [if_neg (by simp; omega), if_neg (by simpa using g2)]; omega
          exact h2 L
        have h3 : O.length ≤ (L.filter fun x => decide (x.f1 < v)).length := by
          have h4 : ∀ u, (O.filter (fun x => decide (x.f1 = u))).length ≤ ((L.filter fun x => decide (x.f1 < v)).filter (fun x => decide (x.f1 = u))).length := by
            intro u
            rw [hf u]
            by_cases h : a ≤ u ∧ u < v ∧ u ≤ b
            · rw [if_pos h, List.filter_filter]
              have : (fun x : S26 => decide (x.f1 = u) && decide (x.f1 < v)) = fun x => decide (x.f1 = u) := by
                funext x
                by_cases hx : x.f1 = u
                · simp [hx]; omega
                · simp [hx]
              rw [this]
              exact Nat.le_refl _
            · rw [if_neg h]; simp
          have h5 : O.Sublist O := List.Sublist.refl _
          -- a sorted list's length is that of its parts; by the parts of O's image
          have h6 : ∀ (n : Nat) (A B : List S26), A.length ≤ n → (∀ u, (A.filter (fun x => decide (x.f1 = u))).length ≤ (B.filter (fun x => decide (x.f1 = u))).length) → A.length ≤ B.length := by
            intro n
            induction n with
            | zero => intro A B hA _; omega
            | succ n ihn =>
              intro A B hA h
              cases A with
              | nil => simp
              | cons x A =>
                have p1 : ∀ (l : List S26), l.length = (l.filter (fun y => decide (y.f1 = x.f1))).length + (l.filter (fun y => !decide (y.f1 = x.f1))).length := by
                  intro l
                  induction l with
                  | nil => rfl
                  | cons y l ihl => by_cases g : y.f1 = x.f1 <;> simp [List.filter_cons, g] <;> omega
                have q := h x.f1
                have r := ihn ((x :: A).filter (fun y => !decide (y.f1 = x.f1))) (B.filter (fun y => !decide (y.f1 = x.f1))) (by
                    have : (x :: A).filter (fun y => !decide (y.f1 = x.f1)) = A.filter (fun y => !decide (y.f1 = x.f1)) := by simp
                    rw [this]
                    have := List.length_filter_le (fun y : S26 => !decide (y.f1 = x.f1)) A
                    simp at hA; omega) (fun u => by
                    rw [List.filter_filter, List.filter_filter]
                    by_cases g : u = x.f1
                    · subst g
                      have : (fun y : S26 => decide (y.f1 = x.f1) && !decide (y.f1 = x.f1)) = fun _ => false := by funext y; simp
                      have h0 : ∀ l : List S26, l.filter (fun _ => false) = [] := fun l => List.filter_eq_nil_iff.2 (by simp)
                      rw [this, h0, h0]; exact Nat.le_refl _
                    · have : (fun y : S26 => decide (y.f1 = u) && !decide (y.f1 = x.f1)) = fun y => decide (y.f1 = u) := by
                        funext y
                        by_cases g2 : y.f1 = u
                        · simp [g2, g]
                        · simp [g2]
                      rw [this]; exact h u)
                rw [p1 (x :: A), p1 B]
                omega
          exact h6 _ O _ (Nat.le_refl _) h4
        rw [List.length_append]; omega
      obtain ⟨Z, hZ, hSZ, hfZ⟩ := ih (v + 1) (O ++ L.filter fun x => decide (x.f1 = v)) (by omega) (by omega) (.inl (by omega)) hO1 (hS.join (by
          have : ∀ l : List S26, Srt (l.filter fun x => decide (x.f1 = v)) := by
            intro l
            refine List.pairwise_iff_getElem.2 (fun i j hi hj _ => ?_)
            have h1 := (List.mem_filter.1 (List.getElem_mem hi)).2
            have h2 := (List.mem_filter.1 (List.getElem_mem hj)).2
            simp only [decide_eq_true_eq] at h1 h2
            omega
          exact this L) (fun x hx y hy => by
          have h1 := hlt x hx
          have h2 := (List.mem_filter.1 hy).2
          simp only [decide_eq_true_eq] at h2
          omega)) (fun x hx => by
          rcases List.mem_append.1 hx with h | h
          · have := hlt x h; omega
          · have h2 := (List.mem_filter.1 h).2
            simp only [decide_eq_true_eq] at h2
            omega) (fun x hx => by
          rcases List.mem_append.1 hx with h | h
          · exact hmem x h
          · exact (List.mem_filter.1 h).1) (fun u => by
          rw [List.filter_append, hf u, filt_filt]
          by_cases g : v = u
          · subst g
            rw [if_neg (by omega), if_pos rfl, if_pos (by omega)]; rfl
          · rw [if_neg g, List.append_nil]
            by_cases h : a ≤ u ∧ u < v ∧ u ≤ b
            · rw [if_pos h, if_pos (by omega)]
            · rw [if_neg h, if_neg (by omega)])
      refine ⟨Z, Ev.step (fun k => by rw [stylusref22_Between.l0]) (pos hv (Ev.step (fun k => by rw [stylusref22_Between.j1]) (pos (decide_eq_true (by omega)) ?_))), hSZ, hfZ⟩
      have := refB_in L b v hl Z L [] O rfl (by omega) (by rw [w64 (x := v + 1) (by omega) (by omega)]; exact hZ)
      simpa using this
    · refine ⟨O, Ev.step (fun k => by rw [stylusref22_Between.l0]) (neg hv (Ev.step (fun k => by rw [stylusref22_Between.j1]) (neg (by decide) (Ev.now _)))), hS, fun u => ?_⟩
      rw [hf u]
      by_cases h : a ≤ u ∧ u ≤ b
      · rw [if_pos h, if_pos (by omega)]
      · rw [if_neg h, if_neg (by omega)]

/-- The two Betweens make one list. -/
theorem betweens (L : List S26) (a b : Int) (ha : 0 ≤ a) (hb : b ≤ 4096) (hl : L.length ≤ 40) (hB : Bd L) : ∃ Z, Ev (fun k => marks_Between.f k L a b) Z ∧ Ev (fun k => stylusref22_Between.f k L a b) Z := by
  obtain ⟨Z, hZ, hS, hT⟩ := between_ev a b L hB hl (fun Z => Srt Z ∧ St (L.filter fun x => decide (a ≤ x.f1) && decide (x.f1 ≤ b)) Z) (fun Z h1 h2 => ⟨h1, h2⟩) L [] [] rfl rfl
  obtain ⟨R, hR, hSR, hfR⟩ := refB_out L a b ha hb hl (b + 1 - a).toNat a [] (by omega) (Int.le_refl _) (.inr rfl) (by simp) List.Pairwise.nil (by simp) (by simp) (fun u => by rw [if_neg (by omega)]; rfl)
  have : Z = R := uniq Z R hS hSR (fun v => by
    rw [← hT.2 v, hfR v, List.filter_filter]
    by_cases h : a ≤ v ∧ v ≤ b
    · rw [if_pos h]
      congr 1
      funext x
      by_cases g : x.f1 = v
      · subst g; simp [h.1, h.2]
      · simp [g]
    · rw [if_neg h, List.filter_eq_nil_iff]
      intro x _
      simp only [Bool.and_eq_true, decide_eq_true_eq]
      rintro ⟨g, h1, h2⟩
      exact h ⟨by omega, by omega⟩)
  subst this
  exact ⟨Z, hZ, hR⟩

/-- Same, of one list and itself. -/
theorem same_ev (Z : List S26) (hl : Z.length < 4611686018427387904) : Ev (fun k => stylusref22_Same.f k Z Z) true := by
  unfold stylusref22_Same.f
  refine pos rfl ?_
  have : ∀ (d i : Nat), Z.length - i ≤ d → i ≤ Z.length → Ev (fun k => stylusref22_Same.l0 k Z Z i) true := by
    intro d
    induction d with
    | zero =>
      intro i h1 h2
      exact Ev.step (fun k => by rw [stylusref22_Same.l0]) (neg (by omega) (Ev.now _))
    | succ d ih =>
      intro i h1 h2
      by_cases h : i < Z.length
      · refine Ev.step (fun k => by rw [stylusref22_Same.l0]) (pos (by omega) (pos (by omega) (pos (by omega) (neg (by simp) ?_))))
        have hw : wrap64 ((i : Int) + 1) = ((i + 1 : Nat) : Int) := by rw [w64 (by omega) (by omega)]; omega
        rw [hw]
        exact ih (i + 1) (by omega) (by omega)
      · exact Ev.step (fun k => by rw [stylusref22_Same.l0]) (neg (by omega) (Ev.now _))
  exact this _ 0 (Nat.le_refl _) (by omega)

/-- How far a mark stands. -/
def dist (a : Int) (x : S26) : Int := if x.f1 - a < a - x.f1 then a - x.f1 else x.f1 - a
theorem far_eq (x : S26) (a : Int) (hx : 0 ≤ x.f1 ∧ x.f1 ≤ 4096) (ha : 0 ≤ a ∧ a ≤ 4096) : marks_far.f x.f0 x.f1 a = some (dist a x) := by
  unfold marks_far.f mx dist
  rw [w64 (x := x.f1 - a) (by omega) (by omega), w64 (x := a - x.f1) (by omega) (by omega)]

/-- The nearest one, by definition: the first of those that stand nearest. -/
def Nearest (a : Int) (L : List S26) (y : S26) : Prop := (∀ x ∈ L, dist a y ≤ dist a x) ∧ L.find? (fun x => decide (dist a x = dist a y)) = some y

theorem near_ev (a : Int) (ha : 0 ≤ a ∧ a ≤ 4096) (s : S26) (T : List S26) (hB : Bd (s :: T)) (hl : T.length < 4611686018427387904) : ∀ (R P : List S26) (y : S26), T = P ++ R → Nearest a (s :: P) y →
    ∃ z, Ev (fun k => marks_Near.l0 k a T T.length P.length y.f0 y.f1) (z.f0, z.f1, true) ∧ Nearest a (s :: T) z := by
  intro R
  induction R with
  | nil =>
    intro P y hT hy
    rw [List.append_nil] at hT
    subst hT
    exact ⟨y, Ev.step (fun k => by rw [marks_Near.l0]) (neg (by omega) (Ev.now _)), hy⟩
  | cons x R ih =>
    intro P y hT hy
    have hlen : T.length = P.length + (R.length + 1) := by rw [hT]; simp
    have hrd : rd_T26 T P.length = x := by rw [hT]; exact rd_at P R x _ rfl
    have hw : wrap64 ((P.length : Int) + 1) = ((P ++ [x]).length : Int) := by rw [w64 (by omega) (by omega)]; simp
    have hT' : T = (P ++ [x]) ++ R := by rw [hT]; simp
    have hx := hB x (by rw [hT]; simp)
    have hym : y ∈ s :: P := List.mem_of_find?_eq_some hy.2
    have hy' := hB y (by rw [hT]; rcases List.mem_cons.1 hym with rfl | h; simp; simp [h])
    have e : s :: (P ++ [x]) = (s :: P) ++ [x] := rfl
    by_cases h : dist a x < dist a y
    · obtain ⟨z, hz, hN⟩ := ih (P ++ [x]) x hT' ⟨fun u hu => by
          rw [e] at hu
          rcases List.mem_append.1 hu with g | g
          · have := hy.1 u g; omega
          · simp at g; subst g; exact Int.le_refl _, by
          rw [e, List.find?_append, List.find?_eq_none.2 (by
            intro u hu
            have := hy.1 u hu
            simp only [decide_eq_true_eq]; omega)]
          simp⟩
      refine ⟨z, Ev.step (fun k => by rw [marks_Near.l0]) (pos (by omega) (pos (by omega) (pos (by omega) ?_))), hN⟩
      rw [hrd, hw]
      simp only [far_eq x a hx ha, far_eq y a hy' ha, Option.bind_some]
      exact pos h hz
    · obtain ⟨z, hz, hN⟩ := ih (P ++ [x]) y hT' ⟨fun u hu => by
          rw [e] at hu
          rcases List.mem_append.1 hu with g | g
          · exact hy.1 u g
          · simp at g; subst g; omega, by
          rw [e, List.find?_append, hy.2]; rfl⟩
      refine ⟨z, Ev.step (fun k => by rw [marks_Near.l0]) (pos (by omega) (pos (by omega) (pos (by omega) ?_))), hN⟩
      rw [hrd, hw]
      simp only [far_eq x a hx ha, far_eq y a hy' ha, Option.bind_some]
      exact neg h hz

/-- The reference's inner loop of Near. -/
theorem refN_in (L : List S26) (a d : Int) (hB : Bd L) (ha : 0 ≤ a ∧ a ≤ 4096) (hd : 0 ≤ d) (hl : L.length < 4611686018427387904) (r : ByteArray × Int × Bool) : ∀ (R P : List S26), L = P ++ R →
    (match R.find? (fun x => decide (dist a x = d)) with | some y => r = (y.f0, y.f1, true) | none => Ev (fun k => stylusref22_Near.l0 k L a (wrap64 (d + 1))) r) →
    Ev (fun k => stylusref22_Near.l1 k L a d P.length) r := by
  intro R
  induction R with
  | nil =>
    intro P hL h
    rw [List.append_nil] at hL
    subst hL
    exact Ev.step (fun k => by rw [stylusref22_Near.l1]) (neg (by omega) h)
  | cons x R ih =>
    intro P hL h
    have hlen : L.length = P.length + (R.length + 1) := by rw [hL]; simp
    have hrd : rd_T26 L P.length = x := by rw [hL]; exact rd_at P R x _ rfl
    have hw : wrap64 ((P.length : Int) + 1) = ((P ++ [x]).length : Int) := by rw [w64 (by omega) (by omega)]; simp
    have hL' : L = (P ++ [x]) ++ R := by rw [hL]; simp
    have hx := hB x (by rw [hL]; simp)
    have e1 : wrap64 (x.f1 - a) = x.f1 - a := w64 (by omega) (by omega)
    have e2 : wrap64 (a - x.f1) = a - x.f1 := w64 (by omega) (by omega)
    refine Ev.step (fun k => by rw [stylusref22_Near.l1]) (pos (by omega) (pos (by omega) ?_))
    rw [hrd, hw, e1, e2]
    by_cases g : dist a x = d
    · rw [List.find?_cons_of_pos (by simpa using g)] at h
      simp only at h
      subst h
      by_cases g1 : x.f1 - a = d
      · exact pos g1 (Ev.now _)
      · refine neg g1 (pos ?_ (Ev.now _))
        unfold dist at g
        split at g <;> omega
    · rw [List.find?_cons_of_neg (by simpa using g)] at h
      unfold dist at g
      refine neg (by split at g <;> omega) (neg (by split at g <;> omega) ?_)
      exact ih (P ++ [x]) hL' h

theorem refN_out (L : List S26) (a : Int) (hB : Bd L) (ha : 0 ≤ a ∧ a ≤ 4096) (hl : L.length < 4611686018427387904) (y : S26) (hy : Nearest a L y) : ∀ (n : Nat) (d : Int), dist a y - d ≤ n → 0 ≤ d → d ≤ dist a y →
    Ev (fun k => stylusref22_Near.l0 k L a d) (y.f0, y.f1, true) := by
  have hym : y ∈ L := List.mem_of_find?_eq_some hy.2
  have hyb := hB y hym
  have hyd : dist a y ≤ 4096 := by unfold dist; split <;> omega
  intro n
  induction n with
  | zero =>
    intro d h1 h2 h3
    obtain rfl : d = dist a y := by omega
    refine Ev.step (fun k => by rw [stylusref22_Near.l0]) (pos (by omega) ?_)
    exact refN_in L a (dist a y) hB ha h2 hl _ L [] rfl (by rw [hy.2])
  | succ n ih =>
    intro d h1 h2 h3
    by_cases h : d = dist a y
    · subst h
      refine Ev.step (fun k => by rw [stylusref22_Near.l0]) (pos (by omega) ?_)
      exact refN_in L a (dist a y) hB ha h2 hl _ L [] rfl (by rw [hy.2])
    · refine Ev.step (fun k => by rw [stylusref22_Near.l0]) (pos (by omega) ?_)
      refine refN_in L a d hB ha h2 hl _ L [] rfl ?_
      rw [List.find?_eq_none.2 (by
        intro u hu
        have := hy.1 u hu
        simp only [decide_eq_true_eq]; omega)]
      simp only
      rw [w64 (x := d + 1) (by omega) (by omega)]
      exact ih (d + 1) (by omega) (by omega) (by omega)

theorem refN_none (a : Int) : ∀ (n : Nat) (d : Int), 4097 - d ≤ n → 0 ≤ d → d ≤ 4097 → Ev (fun k => stylusref22_Near.l0 k [] a d) ((⟨#[]⟩ : ByteArray), 0, false) := by
  intro n
  induction n with
  | zero =>
    intro d h1 h2 h3
    exact Ev.step (fun k => by rw [stylusref22_Near.l0]) (neg (by omega) (Ev.now _))
  | succ n ih =>
    intro d h1 h2 h3
    by_cases h : d ≤ 4096
    · refine Ev.step (fun k => by rw [stylusref22_Near.l0]) (pos h (Ev.step (fun k => by rw [stylusref22_Near.l1]) (neg (by simp) ?_)))
      rw [w64 (x := d + 1) (by omega) (by omega)]
      exact ih (d + 1) (by omega) (by omega) (by omega)
    · exact Ev.step (fun k => by rw [stylusref22_Near.l0]) (neg h (Ev.now _))

theorem nears (L : List S26) (a : Int) (hB : Bd L) (ha : 0 ≤ a ∧ a ≤ 4096) (hl : L.length < 4611686018427387904) : ∃ r : ByteArray × Int × Bool, Ev (fun k => marks_Near.f k L a) r ∧ Ev (fun k => stylusref22_Near.f k L a) r := by
  cases L with
  | nil =>
    refine ⟨((⟨#[]⟩ : ByteArray), 0, false), ?_, ?_⟩
    · unfold marks_Near.f
      exact pos rfl (Ev.now _)
    · unfold stylusref22_Near.f
      exact refN_none a 4097 0 (by omega) (by omega) (by omega)
  | cons s T =>
    simp only [List.length_cons] at hl
    obtain ⟨z, hz, hN⟩ := near_ev a ha s T hB (by omega) T [] s rfl ⟨by simp, by simp⟩
    refine ⟨(z.f0, z.f1, true), ?_, ?_⟩
    · unfold marks_Near.f
      have hr : rd_T26 (s :: T) 0 = s := rfl
      refine neg (by simp only [List.length_cons]; omega) (pos (by simp only [List.length_cons]; omega) (pos (by simp only [List.length_cons]; omega) ?_))
      rw [hr]
      simp only [Option.bind_some, List.drop_succ_cons, List.drop_zero]
      exact hz
    · unfold stylusref22_Near.f
      exact refN_out (s :: T) a hB ha (by simp; omega) z hN (dist a z).toNat 0 (by omega) (by omega) (by unfold dist; split <;> omega)

theorem lives_ev : Ev (fun k => styluslaw22_lives.f k) true := Ev.of (fun k => styluslaw22_lives.mono k) (k := 12) (by decide +kernel)

/-- THE LAW: whatever the marks and the places. -/
theorem nearsPure (L : List S26) (a b : Int) (hl : L.length < 4611686018427387904) : Ev (fun k => styluslaw22_MarksNears.f k L a b) true := by
  have hlv : Ev (fun k => (styluslaw22_lives.f k).bind fun t => some t) true := Ev.bind lives_ev (Ev.now _)
  have j1 : Ev (fun k => styluslaw22_MarksNears.j0 k L a b true) true := Ev.step (fun k => by rw [styluslaw22_MarksNears.j0]) (pos rfl hlv)
  unfold styluslaw22_MarksNears.f styluslaw22_few.f
  simp only [Option.bind_some]
  by_cases h0 : (L.length : Int) ≤ 40
  · refine pos (decide_eq_true h0) ?_
    by_cases h1 : a < 0
    · exact pos h1 j1
    refine neg h1 ?_
    by_cases h2 : a > 4096
    · exact pos h2 j1
    refine neg h2 ?_
    by_cases h3 : b < 0
    · exact pos h3 j1
    refine neg h3 ?_
    by_cases h4 : b > 4096
    · simp only [decide_eq_true h4]; exact j1
    simp only [decide_eq_false h4]
    refine Ev.step (fun k => by rw [styluslaw22_MarksNears.j0]) (neg (by decide) ?_)
    have main : ∀ (R P : List S26), L = P ++ R → Bd P → Ev (fun k => styluslaw22_MarksNears.l0 k L a b P.length) true := by
      intro R
      induction R with
      | nil =>
        intro P hL hP
        rw [List.append_nil] at hL
        subst hL
        refine Ev.step (fun k => by rw [styluslaw22_MarksNears.l0]) (neg (by omega) ?_)
        obtain ⟨r, hr1, hr2⟩ := nears L a hP ⟨by omega, by omega⟩ hl
        obtain ⟨Z, hZ1, hZ2⟩ := betweens L a b (by omega) (by omega) (by omega) hP
        have hZl : Z.length < 4611686018427387904 := by
          obtain ⟨Z', hZ', _, hT⟩ := between_ev a b L hP (by omega) (fun Z => Srt Z ∧ St (L.filter fun x => decide (a ≤ x.f1) && decide (x.f1 ≤ b)) Z) (fun Z h1 h2 => ⟨h1, h2⟩) L [] [] rfl rfl
          obtain ⟨K1, hK1⟩ := hZ1
          obtain ⟨K2, hK2⟩ := hZ'
          have q1 := hK1 (max K1 K2) (by omega)
          have q2 := hK2 (max K1 K2) (by omega)
          simp only [marks_Between.f] at q1
          have q3 : Z' = Z := Option.some.inj (q2.symm.trans q1)
          rw [← q3, ← hT.len]
          exact Nat.lt_of_le_of_lt (List.length_filter_le _ _) hl
        refine Ev.bind hr1 (Ev.bind hr2 (Ev.bind hZ1 (Ev.bind hZ2 (Ev.bind (same_ev Z hZl) ?_))))
        refine pos rfl (pos (by simp) (pos (by simp) hlv))
      | cons x R ih =>
        intro P hL hP
        have hlen : L.length = P.length + (R.length + 1) := by rw [hL]; simp
        have hrd : rd_T26 L P.length = x := by rw [hL]; exact rd_at P R x _ rfl
        have hw : wrap64 ((P.length : Int) + 1) = ((P ++ [x]).length : Int) := by rw [w64 (by omega) (by omega)]; simp
        refine Ev.step (fun k => by rw [styluslaw22_MarksNears.l0]) (pos (by omega) (pos (by omega) ?_))
        rw [hrd, hw]
        by_cases g1 : x.f1 < 0
        · exact pos g1 hlv
        refine neg g1 ?_
        by_cases g2 : x.f1 > 4096
        · exact pos g2 hlv
        refine neg g2 (ih (P ++ [x]) (by rw [hL]; simp) ((Bd_app _ _).2 ⟨hP, fun y hy => by simp at hy; subst hy; omega⟩))
    exact main L [] rfl (by intro x hx; simp at hx)
  · exact neg (by simpa using h0) j1
end Go.Proofs.Ythlhcclgngncbaa.Pl
