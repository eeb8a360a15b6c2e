/- Plain laws of the stable sort: symMerge whole, the sort of up to forty. -/
import Derived.Test.YthlhcclgngncbaaPlC
import Derived.Test.YthlhcclgngncbaaQMnx8
namespace Go.Proofs.Ythlhcclgngncbaa.Pl
open Go.RowKit Go.Proofs.Ythlhcclgngncbaa.QMn Go.Proofs.YthlhcclgngncbaaW.PrintWords Go.Proofs.YthlhcclgngncbaaW.PrintLast Go.Proofs.YthlhcclgngncbaaW.PrintMore

set_option linter.unusedVariables false
/-- What a merge of two sorted runs is to make. -/
def Mg (A X Y B : List S26) (g : Nat → Option (List S26)) : Prop := ∃ Z, Ev g (A ++ Z ++ B) ∧ Srt Z ∧ St (X ++ Y) Z

theorem sm_left (A Y B : List S26) (x : S26) (a m b : Int) (hx : 0 ≤ x.f1 ∧ x.f1 ≤ 4096) (hY : Bd Y) (hS : Srt Y) (ha : a = A.length) (hm : m = A.length + 1) (hb : b = A.length + 1 + Y.length) (hl : ((A ++ x :: Y ++ B).length : Int) < 4611686018427387904) :
    Mg A [x] Y B (fun k => api_Mark_27.l0 k (A ++ x :: Y ++ B) a m b) := by
  obtain ⟨Z', hZ, Z, rfl, hC⟩ := bs1 A Y B x a (fun Z' => ∃ Z, Z' = A ++ Z ++ B ∧ Srt Z ∧ St ([x] ++ Y) Z) hx hY hS ha hl (fun n hn h1 h2 => by
    have hsp : Srt (Y.take n ++ Y.drop n) := by rw [List.take_append_drop]; exact hS
    refine ⟨A ++ Y.take n ++ x :: (Y.drop n ++ B), ?_, Y.take n ++ x :: Y.drop n, by simp, hsp.split.1.join (List.pairwise_cons.2 ⟨h2, hsp.split.2.1⟩) (fun u hu v hv => ?_), ?_⟩
    · have e : A ++ x :: Y ++ B = A ++ x :: Y.take n ++ (Y.drop n ++ B) := by
        conv => lhs; rw [← List.take_append_drop n Y]
        simp only [List.append_assoc, List.cons_append]
      have hlen : (Y.take n).length = n := by rw [List.length_take]; omega
      have h := right_ev (Y.drop n ++ B) x (A.length + 1 + n) (Y.take n) A a ha (by rw [hlen]) (by rw [← e]; exact hl)
      rw [e]; exact h
    · rcases List.mem_cons.1 hv with rfl | hv
      · have := h1 u hu; omega
      · exact hsp.split.2.2 u hu v hv
    · have e : [x] ++ Y = ([x] ++ Y.take n) ++ Y.drop n := by simp
      have e' : Y.take n ++ x :: Y.drop n = (Y.take n ++ [x]) ++ Y.drop n := by simp
      rw [e, e']
      exact St.append (St.swap (by simpa using h1)) (St.refl _)) (Y.length) 0 Y.length (by omega) (by omega) (by omega) (by simp) (by simp)
  refine ⟨Z, ?_, hC⟩
  have e1 : m = A.length + 1 + ((0 : Nat) : Int) := by omega
  rw [← e1, ← hb] at hZ; exact hZ

theorem sm_right (A X B : List S26) (y : S26) (a m b : Int) (hy : 0 ≤ y.f1 ∧ y.f1 ≤ 4096) (hX : Bd X) (hS : Srt X) (ha : a = A.length) (hm : m = A.length + X.length) (hl : ((A ++ X ++ y :: B).length : Int) < 4611686018427387904) :
    Mg A X [y] B (fun k => api_Mark_27.l2 k (A ++ X ++ y :: B) m a m) := by
  obtain ⟨Z', hZ, Z, rfl, hC⟩ := bs2 A X B y m (fun Z' => ∃ Z, Z' = A ++ Z ++ B ∧ Srt Z ∧ St (X ++ [y]) Z) hy hX hS hm hl (fun n hn h1 h2 => by
    have hsp : Srt (X.take n ++ X.drop n) := by rw [List.take_append_drop]; exact hS
    refine ⟨A ++ X.take n ++ y :: (X.drop n ++ B), ?_, X.take n ++ y :: X.drop n, by simp, hsp.split.1.join (List.pairwise_cons.2 ⟨fun u hu => by have := h2 u hu; omega, hsp.split.2.1⟩) (fun u hu v hv => ?_), ?_⟩
    · have e : A ++ X ++ y :: B = (A ++ X.take n) ++ X.drop n ++ y :: B := by simp
      have hlen : (X.take n).length = n := by rw [List.length_take]; omega
      have h := left_ev (A ++ X.take n) y (A.length + n) (by simp [hlen]) (X.drop n).length (X.drop n) B m rfl (by simp [hlen]; omega) (by rw [← e]; exact hl)
      rw [e]
      simpa using h
    · rcases List.mem_cons.1 hv with rfl | hv
      · exact h1 u hu
      · exact hsp.split.2.2 u hu v hv
    · have e : X ++ [y] = X.take n ++ (X.drop n ++ [y]) := by rw [← List.append_assoc, List.take_append_drop]
      have e' : X.take n ++ y :: X.drop n = X.take n ++ ([y] ++ X.drop n) := by simp
      rw [e, e']
      exact St.append (St.refl _) (St.swap (fun u hu v hv => by simp at hv; subst hv; exact h2 u hu))) (X.length) 0 X.length (by omega) (by omega) (by omega) (by simp) (by simp)
  refine ⟨Z, ?_, hC⟩
  have e1 : a = A.length + ((0 : Nat) : Int) := by omega
  rw [← e1, ← hm] at hZ; exact hZ

/-- The search of symMerge: where the two runs part. (s0, r0: from where to where it looks; t: what it finds.) -/
theorem search (L : List S26) (a m b mid n p : Int) (C : List S26 → Prop) (hB : Bd L) (hl : (L.length : Int) < 2305843009213693951) (hn : n = mid + m) (hp : p = n - 1)
    (s0 r0 : Int) (h0 : 0 ≤ s0) (hin : ∀ c, s0 ≤ c → c < r0 → c < L.length ∧ 0 ≤ p - c ∧ p - c < L.length)
    (hc : ∀ t, s0 ≤ t → t ≤ r0 → (s0 < t → (rd_T26 L (t - 1)).f1 ≤ (rd_T26 L (p - (t - 1))).f1) → (t < r0 → (rd_T26 L (p - t)).f1 < (rd_T26 L t).f1) →
      ∃ Z, Ev (fun k => if t < m then (api_Mark_27.j6 k L a m b mid t (wrap64 (n - t)) (decide (m < (wrap64 (n - t))))) else (api_Mark_27.j6 k L a m b mid t (wrap64 (n - t)) false)) Z ∧ C Z) :
    ∀ (d : Nat) (s r : Int), r - s ≤ d → s0 ≤ s → s ≤ r → r ≤ r0 → (s0 < s → (rd_T26 L (s - 1)).f1 ≤ (rd_T26 L (p - (s - 1))).f1) → (r < r0 → (rd_T26 L (p - r)).f1 < (rd_T26 L r).f1) →
    ∃ Z, Ev (fun k => api_Mark_27.l4 k L a m b mid n s r p) Z ∧ C Z := by
  have stop : ∀ t, s0 ≤ t → t ≤ r0 → (s0 < t → (rd_T26 L (t - 1)).f1 ≤ (rd_T26 L (p - (t - 1))).f1) → (t < r0 → (rd_T26 L (p - t)).f1 < (rd_T26 L t).f1) → ∃ Z, Ev (fun k => api_Mark_27.l4 k L a m b mid n t t p) Z ∧ C Z := by
    intro t h1 h2 h3 h4
    obtain ⟨Z, hZ, hC⟩ := hc t h1 h2 h3 h4
    exact ⟨Z, Ev.step (fun k => by rw [api_Mark_27.l4]) (neg (by omega) hZ), hC⟩
  have bd : ∀ i : Int, 0 ≤ i → i < L.length → 0 ≤ (rd_T26 L i).f1 ∧ (rd_T26 L i).f1 ≤ 4096 := by
    intro i h1 h2
    obtain ⟨q, x, u, e, _, hr⟩ := rd_get L i h1 h2
    rw [hr]; exact hB x (by rw [e]; simp)
  intro d
  induction d with
  | zero =>
    intro s r hd h1 h2 h3 h4 h5
    obtain rfl : s = r := by omega
    exact stop s h1 h3 h4 h5
  | succ d ih =>
    intro s r hd h1 h2 h3 h4 h5
    by_cases he : s = r
    · subst he; exact stop s h1 h3 h4 h5
    · have hrl : r ≤ L.length := by have := hin (r - 1) (by omega) (by omega); omega
      have EH0 := Aside0.mk (half (i := s) (j := r) (by omega) h2 (by omega))
      obtain ⟨c, hcc⟩ : ∃ c, (s + r) / 2 = c := ⟨_, rfl⟩
      have hcs : s ≤ c ∧ c < r := by omega
      have hi := hin c (by omega) (by omega)
      have EH := Aside0.mk (EH0.out.trans hcc)
      clear EH0
      have e1 : wrap64 (p - c) = p - c := w64 (by omega) (by omega)
      have e4 := ahead_lt (rd_T26 L (p - c)) (rd_T26 L c) (bd _ hi.2.1 hi.2.2) (bd _ (by omega) hi.1)
      by_cases hlt : (rd_T26 L (p - c)).f1 < (rd_T26 L c).f1
      · obtain ⟨Z, hZ, hC⟩ := ih s c (by omega) h1 (by omega) (by omega) h4 (fun _ => hlt)
        refine ⟨Z, Ev.step (fun k => by rw [api_Mark_27.l4]) ?_, hC⟩
        rw [EH.out, e1]
        refine pos (by omega) (pos (by omega) (pos (by omega) (pos (by omega) (pos (by omega) ?_))))
        simp only [e4, Option.bind_some]
        exact pos (by omega) hZ
      · obtain ⟨Z, hZ, hC⟩ := ih (c + 1) r (by omega) (by omega) (by omega) h3 (fun _ => by rw [show c + 1 - 1 = c by omega]; omega) h5
        refine ⟨Z, Ev.step (fun k => by rw [api_Mark_27.l4]) ?_, hC⟩
        rw [EH.out, e1]
        refine pos (by omega) (pos (by omega) (pos (by omega) (pos (by omega) (pos (by omega) ?_))))
        simp only [e4, Option.bind_some]
        refine neg (by omega) ?_
        rw [w64 (x := c + 1) (by omega) (by omega)]
        exact hZ

theorem rd_mid (A Y : List S26) (i : Int) (h0 : (A.length : Int) ≤ i) : rd_T26 (A ++ Y) i = rd_T26 Y (i - A.length) := by
  unfold rd_T26
  rw [List.getD_eq_getElem?_getD, List.getD_eq_getElem?_getD, List.getElem?_append_right (by omega)]
  congr 2; omega
theorem rd_fst (A Y : List S26) (i : Int) (h0 : 0 ≤ i) (h : i < A.length) : rd_T26 (A ++ Y) i = rd_T26 A i := by
  unfold rd_T26
  rw [List.getD_eq_getElem?_getD, List.getD_eq_getElem?_getD, List.getElem?_append_left (by omega)]
theorem Srt.rd {L : List S26} (h : Srt L) (i j : Int) (h0 : 0 ≤ i) (hij : i ≤ j) (hj : j < L.length) : (rd_T26 L i).f1 ≤ (rd_T26 L j).f1 := by
  have hi' : i.toNat < L.length := by omega
  have hj' : j.toNat < L.length := by omega
  have e1 : rd_T26 L i = L[i.toNat] := by simp [rd_T26, hi']
  have e2 : rd_T26 L j = L[j.toNat] := by simp [rd_T26, hj']
  rw [e1, e2]
  by_cases he : i.toNat = j.toNat
  · simp only [he]; exact Int.le_refl _
  · exact List.pairwise_iff_getElem.1 h i.toNat j.toNat hi' hj' (by omega)
theorem mem_rd {L : List S26} {x : S26} (h : x ∈ L) : ∃ i : Int, 0 ≤ i ∧ i < L.length ∧ rd_T26 L i = x := by
  obtain ⟨i, hi, rfl⟩ := List.mem_iff_getElem.1 h
  exact ⟨i, by omega, by omega, by simp [rd_T26, hi]⟩

theorem Bd_app (a b : List S26) : Bd (a ++ b) ↔ Bd a ∧ Bd b := by
  constructor
  · intro h; exact ⟨fun x hx => h x (by simp [hx]), fun x hx => h x (by simp [hx])⟩
  · rintro ⟨h, k⟩ x hx
    rcases List.mem_append.1 hx with g | g
    · exact h x g
    · exact k x g

/-- The end of symMerge: two runs, or none. -/
theorem half_ev (s : Nat) (ih : ∀ q, q < s → ∀ (A X Y B : List S26) (a m b : Int), X.length + Y.length = q → 0 < X.length → 0 < Y.length → Bd (A ++ X ++ Y ++ B) → Srt X → Srt Y → a = A.length → m = A.length + X.length → b = A.length + X.length + Y.length → ((A ++ X ++ Y ++ B).length : Int) < 2305843009213693951 → Mg A X Y B (fun k => api_Mark_27.f k (A ++ X ++ Y ++ B) a m b))
    (P X Y B : List S26) (a m b : Int) (hs : X.length + Y.length < s) (hB : Bd (P ++ X ++ Y ++ B)) (hX : Srt X) (hY : Srt Y) (ha : a = P.length) (hm : m = P.length + X.length) (hb : b = P.length + X.length + Y.length) (hl : ((P ++ X ++ Y ++ B).length : Int) < 2305843009213693951) :
    Mg P X Y B (fun k => if a < m then (if m < b then ((api_Mark_27.f k (P ++ X ++ Y ++ B) a m b).bind fun t => some t) else some (P ++ X ++ Y ++ B)) else some (P ++ X ++ Y ++ B)) := by
  by_cases h1 : a < m
  · by_cases h2 : m < b
    · obtain ⟨Z, hZ, hC⟩ := ih _ hs P X Y B a m b rfl (by omega) (by omega) hB hX hY ha hm hb hl
      exact ⟨Z, pos h1 (pos h2 (Ev.bind hZ (Ev.now _))), hC⟩
    · have : Y = [] := List.length_eq_zero_iff.1 (by omega)
      subst this
      exact ⟨X, pos h1 (neg h2 (by simpa using Ev.now _)), hX, by simpa using St.refl X⟩
  · have : X = [] := List.length_eq_zero_iff.1 (by omega)
    subst this
    exact ⟨Y, neg h1 (by simpa using Ev.now _), hY, by simpa using St.refl Y⟩

set_option maxHeartbeats 4000000 in
theorem symMerge : ∀ (s : Nat) (A X Y B : List S26) (a m b : Int), X.length + Y.length = s → 0 < X.length → 0 < Y.length → Bd (A ++ X ++ Y ++ B) → Srt X → Srt Y → a = A.length → m = A.length + X.length → b = A.length + X.length + Y.length → ((A ++ X ++ Y ++ B).length : Int) < 2305843009213693951 → Mg A X Y B (fun k => api_Mark_27.f k (A ++ X ++ Y ++ B) a m b) := by
  intro s
  induction s using Nat.strongRecOn with
  | _ s ih =>
    intro A X Y B a m b hs hX0 hY0 hB hX hY ha hm hb hl
    have L1 : ((A ++ X ++ Y ++ B).length : Int) = A.length + X.length + Y.length + B.length := by simp; omega
    have BX : Bd X := fun x hx => hB x (by simp [hx])
    have BY : Bd Y := fun x hx => hB x (by simp [hx])
    have e1 : wrap64 (m - a) = m - a := w64 (by omega) (by omega)
    have e2 : wrap64 (b - m) = b - m := w64 (by omega) (by omega)
    by_cases h1 : m - a = 1
    · obtain ⟨x, rfl⟩ := List.length_eq_one_iff.1 (show X.length = 1 by omega)
      obtain ⟨Z, hZ, hC⟩ := sm_left A Y B x a m b (BX x (by simp)) BY hY ha (by simpa using hm) (by simpa using hb) (by simp at hl ⊢; omega)
      refine ⟨Z, Ev.step (fun k => by rw [api_Mark_27.f]) ?_, hC⟩
      rw [e1, e2]
      exact pos h1 (by simpa using hZ)
    by_cases h2 : b - m = 1
    · obtain ⟨y, rfl⟩ := List.length_eq_one_iff.1 (show Y.length = 1 by omega)
      obtain ⟨Z, hZ, hC⟩ := sm_right A X B y a m b (BY y (by simp)) BX hX ha hm (by simp at hl ⊢; omega)
      refine ⟨Z, Ev.step (fun k => by rw [api_Mark_27.f]) ?_, hC⟩
      rw [e1, e2]
      exact neg h1 (pos h2 (by simpa using hZ))
    have EH := Aside0.mk (half (i := a) (j := b) (by omega) (by omega) (by omega))
    obtain ⟨mid, hmid⟩ : ∃ mid, (a + b) / 2 = mid := ⟨_, rfl⟩
    have hm2 : a < mid ∧ mid < b ∧ 2 * mid ≤ a + b ∧ a + b ≤ 2 * mid + 1 := by omega
    have EM := Aside0.mk (EH.out.trans hmid)
    clear EH hmid
    have e3 : wrap64 (mid + m) = mid + m := w64 (by omega) (by omega)
    have e4 : wrap64 (mid + m - b) = mid + m - b := w64 (by omega) (by omega)
    have e5 : wrap64 (mid + m - 1) = mid + m - 1 := w64 (by omega) (by omega)
    -- what follows the search
    have key : ∀ s0 r0 : Int, s0 ≤ r0 → 0 ≤ s0 → a ≤ s0 → mid + m - b ≤ s0 → (s0 = a ∨ s0 = mid + m - b) → r0 ≤ m → r0 ≤ mid → (r0 = m ∨ r0 = mid) →
        Mg A X Y B (fun k => api_Mark_27.l4 k (A ++ X ++ Y ++ B) a m b mid (mid + m) s0 r0 (mid + m - 1)) := by
      intro s0 r0 hsr hs0 hsa hsb hsab hrm hrd hrmd
      obtain ⟨Z', hZ, Z, rfl, hC⟩ := search (A ++ X ++ Y ++ B) a m b mid (mid + m) (mid + m - 1) (fun Z' => ∃ Z, Z' = A ++ Z ++ B ∧ Srt Z ∧ St (X ++ Y) Z) hB hl rfl rfl s0 r0 hs0 (fun c hc1 hc2 => by omega) (fun t ht1 ht2 hlo hhi => by
        have he : wrap64 (mid + m - t) = mid + m - t := w64 (by omega) (by omega)
        obtain ⟨n1, hn1⟩ : ∃ n1 : Nat, t = A.length + n1 := ⟨(t - A.length).toNat, by omega⟩
        obtain ⟨n2, hn2⟩ : ∃ n2 : Nat, mid + m - t = m + n2 := ⟨(mid - t).toNat, by omega⟩
        obtain ⟨X1, hX1⟩ : ∃ X1, X1 = X.take n1 := ⟨_, rfl⟩
        obtain ⟨X2, hX2⟩ : ∃ X2, X2 = X.drop n1 := ⟨_, rfl⟩
        obtain ⟨Y1, hY1⟩ : ∃ Y1, Y1 = Y.take n2 := ⟨_, rfl⟩
        obtain ⟨Y2, hY2⟩ : ∃ Y2, Y2 = Y.drop n2 := ⟨_, rfl⟩
        have eX : X = X1 ++ X2 := by rw [hX1, hX2, List.take_append_drop]
        have eY : Y = Y1 ++ Y2 := by rw [hY1, hY2, List.take_append_drop]
        have l1 : X1.length = n1 := by rw [hX1, List.length_take]; omega
        have l3 : Y1.length = n2 := by rw [hY1, List.length_take]; omega
        have l2 : X.length = n1 + X2.length := by rw [eX, List.length_append, l1]
        have l4 : Y.length = n2 + Y2.length := by rw [eY, List.length_append, l3]
        have sX := (eX ▸ hX : Srt (X1 ++ X2)).split
        have sY := (eY ▸ hY : Srt (Y1 ++ Y2)).split
        -- reading in the runs
        have rX : ∀ c : Int, (A.length : Int) ≤ c → c < m → rd_T26 (A ++ X ++ Y ++ B) c = rd_T26 X (c - A.length) := fun c h1 h2 => by
          have e : A ++ X ++ Y ++ B = A ++ (X ++ (Y ++ B)) := by simp
          rw [e, rd_mid _ _ _ h1, rd_fst _ _ _ (by omega) (by omega)]
        have rY : ∀ c : Int, m ≤ c → c < b → rd_T26 (A ++ X ++ Y ++ B) c = rd_T26 Y (c - m) := fun c h1 h2 => by
          have e : A ++ X ++ Y ++ B = (A ++ X) ++ (Y ++ B) := by simp
          rw [e, rd_mid _ _ _ (by simp; omega), rd_fst _ _ _ (by simp; omega) (by simp; omega)]
          congr 1; simp; omega
        have F1 : ∀ x ∈ X2, ∀ y ∈ Y1, y.f1 < x.f1 := by
          intro x hx y hy
          have hx0 := List.length_pos_of_mem hx
          have hy0 := List.length_pos_of_mem hy
          have h := hhi (by omega)
          rw [rX t (by omega) (by omega), rY (mid + m - 1 - t) (by omega) (by omega)] at h
          obtain ⟨i, hi0, hi1, rfl⟩ := mem_rd hx
          obtain ⟨j, hj0, hj1, rfl⟩ := mem_rd hy
          have g1 : rd_T26 X2 i = rd_T26 X (n1 + i) := by rw [eX, rd_mid _ _ _ (by omega)]; congr 1; omega
          have g2 : rd_T26 Y1 j = rd_T26 Y j := by rw [eY, rd_fst _ _ _ hj0 hj1]
          rw [g1, g2]
          have h3 := hX.rd (t - A.length) (n1 + i) (by omega) (by omega) (by omega)
          have h4 := hY.rd j (mid + m - 1 - t - m) hj0 (by omega) (by omega)
          omega
        have F2 : ∀ x ∈ X1, ∀ y ∈ Y2, x.f1 ≤ y.f1 := by
          intro x hx y hy
          have hx0 := List.length_pos_of_mem hx
          have hy0 := List.length_pos_of_mem hy
          have h := hlo (by omega)
          rw [rX (t - 1) (by omega) (by omega), rY (mid + m - 1 - (t - 1)) (by omega) (by omega)] at h
          obtain ⟨i, hi0, hi1, rfl⟩ := mem_rd hx
          obtain ⟨j, hj0, hj1, rfl⟩ := mem_rd hy
          have g1 : rd_T26 X1 i = rd_T26 X i := by rw [eX, rd_fst _ _ _ hi0 hi1]
          have g2 : rd_T26 Y2 j = rd_T26 Y (n2 + j) := by rw [eY, rd_mid _ _ _ (by omega)]; congr 1; omega
          rw [g1, g2]
          have h3 := hX.rd i (t - 1 - A.length) hi0 (by omega) (by omega)
          have h4 := hY.rd (mid + m - 1 - (t - 1) - m) (n2 + j) (by omega) (by omega) (by omega)
          omega
        subst eX eY
        have LL : ((A ++ X1 ++ Y1 ++ X2 ++ Y2 ++ B).length : Int) = A.length + X1.length + Y1.length + X2.length + Y2.length + B.length := by simp; omega
        have BB : Bd (A ++ X1 ++ Y1 ++ X2 ++ Y2 ++ B) := by have hb := hB; simp only [Bd_app] at hb ⊢; simp [hb]
        -- the left merge, then the right one
        obtain ⟨Z1, hZ1, hS1, hT1⟩ := half_ev s ih A X1 Y1 (X2 ++ Y2 ++ B) a t mid (by omega) (by have hb := BB; simp only [Bd_app] at hb ⊢; simp [hb]) sX.1 sY.1 ha (by omega) (by omega) (by simp at hl ⊢; omega)
        have lZ1 : Z1.length = X1.length + Y1.length := by rw [← hT1.len]; simp
        have BZ1 : Bd Z1 := Bd.of hT1 (by have hb := BB; simp only [Bd_app] at hb ⊢; simp [hb])
        obtain ⟨Z2, hZ2, hS2, hT2⟩ := half_ev s ih (A ++ Z1) X2 Y2 B mid (mid + m - t) b (by omega) (by have hb := BB; simp only [Bd_app] at hb ⊢; simp [hb, BZ1]) sX.2.1 sY.2.1 (by simp; omega) (by simp; omega) (by simp; omega) (by simp at hl ⊢; omega)
        refine ⟨A ++ (Z1 ++ Z2) ++ B, ?_, Z1 ++ Z2, rfl, hS1.join hS2 (fun x hx y hy => ?_), ?_⟩
        · -- the code
          have J8 : Ev (fun k => if a < t then (api_Mark_27.j8 k (A ++ X1 ++ Y1 ++ X2 ++ Y2 ++ B) a b mid t (mid + m - t) (decide (t < mid))) else (api_Mark_27.j8 k (A ++ X1 ++ Y1 ++ X2 ++ Y2 ++ B) a b mid t (mid + m - t) false)) (A ++ (Z1 ++ Z2) ++ B) := by
            have hZ2' : Ev (fun k => if mid < mid + m - t then (if mid + m - t < b then ((api_Mark_27.f k (A ++ Z1 ++ X2 ++ Y2 ++ B) mid (mid + m - t) b).bind fun t => some t) else some (A ++ Z1 ++ X2 ++ Y2 ++ B)) else some (A ++ Z1 ++ X2 ++ Y2 ++ B)) (A ++ (Z1 ++ Z2) ++ B) := by simpa using hZ2
            by_cases g1 : a < t
            · refine pos g1 ?_
              by_cases g2 : t < mid
              · refine Ev.step (fun k => by rw [api_Mark_27.j8]) ?_
                refine pos (decide_eq_true g2) ?_
                obtain ⟨W, hW, hWS, hWT⟩ := ih _ (show X1.length + Y1.length < s by omega) A X1 Y1 (X2 ++ Y2 ++ B) a t mid rfl (by omega) (by omega) (by have hb := BB; simp only [Bd_app] at hb ⊢; simp [hb]) sX.1 sY.1 ha (by omega) (by omega) (by simp at hl ⊢; omega)
                have hWZ : W = Z1 := by
                  have h1 : Ev (fun k => (api_Mark_27.f k (A ++ X1 ++ Y1 ++ (X2 ++ Y2 ++ B)) a t mid).bind fun t => some t) (A ++ Z1 ++ (X2 ++ Y2 ++ B)) := by
                    obtain ⟨K, hK⟩ := hZ1
                    exact ⟨K, fun k hk => by have := hK k hk; dsimp only at this; rwa [if_pos g1, if_pos g2] at this⟩
                  obtain ⟨K1, hK1⟩ := h1
                  obtain ⟨K2, hK2⟩ := hW
                  have a1 := hK1 (max K1 K2) (by omega)
                  have b2 := hK2 (max K1 K2) (by omega)
                  dsimp only at a1 b2
                  rw [b2] at a1
                  simp only [Option.bind_some, Option.some.injEq] at a1
                  have a2 := List.append_cancel_right a1
                  exact List.append_cancel_left a2
                subst hWZ
                have e7 : A ++ X1 ++ Y1 ++ X2 ++ Y2 ++ B = A ++ X1 ++ Y1 ++ (X2 ++ Y2 ++ B) := by simp
                rw [e7]
                refine Ev.bind hW ?_
                have e8 : A ++ W ++ (X2 ++ Y2 ++ B) = A ++ W ++ X2 ++ Y2 ++ B := by simp
                rw [e8]
                exact hZ2'
              · have hY1 : Y1 = [] := List.length_eq_zero_iff.1 (by omega)
                have hz : Z1 = X1 := by
                  obtain ⟨K, hK⟩ := hZ1
                  have a1 := hK K (by omega)
                  dsimp only at a1
                  rw [if_pos g1, if_neg g2] at a1
                  simp only [Option.some.injEq] at a1
                  subst hY1
                  have a2 := List.append_cancel_right a1
                  exact (show X1 = Z1 by simpa using a2).symm
                refine Ev.step (fun k => by rw [api_Mark_27.j8]) ?_
                refine neg (by simp [g2]) ?_
                subst hY1 hz
                simpa using hZ2'
            · have hX1 : X1 = [] := List.length_eq_zero_iff.1 (by omega)
              have hz : Z1 = Y1 := by
                obtain ⟨K, hK⟩ := hZ1
                have a1 := hK K (by omega)
                dsimp only at a1
                rw [if_neg g1] at a1
                simp only [Option.some.injEq] at a1
                subst hX1
                have a2 := List.append_cancel_right a1
                exact (show Y1 = Z1 by simpa using a2).symm
              refine neg g1 (Ev.step (fun k => by rw [api_Mark_27.j8]) ?_)
              refine neg (by decide) ?_
              subst hX1 hz
              simpa using hZ2'
          rw [he]
          have J7 : Ev (fun k => api_Mark_27.j7 k (A ++ X1 ++ Y1 ++ X2 ++ Y2 ++ B) a b mid t (mid + m - t)) (A ++ (Z1 ++ Z2) ++ B) := Ev.step (fun k => by rw [api_Mark_27.j7]) J8
          by_cases g1 : t < m
          · refine pos g1 (Ev.step (fun k => by rw [api_Mark_27.j6]) ?_)
            by_cases g2 : m < mid + m - t
            · refine pos (decide_eq_true g2) ?_
              have e9 : A ++ (X1 ++ X2) ++ (Y1 ++ Y2) ++ B = (A ++ X1) ++ X2 ++ Y1 ++ (Y2 ++ B) := by simp
              rw [e9]
              have hr := rotate (A ++ X1) X2 Y1 (Y2 ++ B) t m (mid + m - t) (by omega) (by omega) (by simp; omega) (by simp; omega) (by simp; omega) (by simp at hl ⊢; omega)
              refine Ev.bind hr ?_
              have e10 : A ++ X1 ++ Y1 ++ X2 ++ (Y2 ++ B) = A ++ X1 ++ Y1 ++ X2 ++ Y2 ++ B := by simp
              rw [e10]; exact J7
            · have hY1 : Y1 = [] := List.length_eq_zero_iff.1 (by omega)
              refine neg (by simp [g2]) ?_
              subst hY1
              simpa using J7
          · have hX2 : X2 = [] := List.length_eq_zero_iff.1 (by omega)
            refine neg g1 (Ev.step (fun k => by rw [api_Mark_27.j6]) (neg (by decide) ?_))
            subst hX2
            simpa using J7
        · have hx' := hT1.mem.2 hx
          have hy' := hT2.mem.2 hy
          rcases List.mem_append.1 hx' with h | h <;> rcases List.mem_append.1 hy' with g | g
          · exact sX.2.2 x h y g
          · exact F2 x h y g
          · have := F1 y g x h; omega
          · exact sY.2.2 x h y g
        · have e11 : X1 ++ X2 ++ (Y1 ++ Y2) = X1 ++ ((X2 ++ Y1) ++ Y2) := by simp
          rw [e11]
          refine St.trans (St.append (St.refl _) (St.append (St.swap F1) (St.refl _))) ?_
          have e12 : X1 ++ ((Y1 ++ X2) ++ Y2) = (X1 ++ Y1) ++ (X2 ++ Y2) := by simp
          rw [e12]
          exact St.append hT1 hT2) (r0 - s0).toNat s0 r0 (by omega) (Int.le_refl _) hsr (Int.le_refl _) (fun h => absurd h (by omega)) (fun h => absurd h (by omega))
      exact ⟨Z, hZ, hC⟩
    by_cases h3 : m > mid
    · obtain ⟨Z, hZ, hC⟩ := key (mid + m - b) mid (by omega) (by omega) (by omega) (by omega) (.inr rfl) (by omega) (by omega) (.inr rfl)
      refine ⟨Z, Ev.step (fun k => by rw [api_Mark_27.f]) ?_, hC⟩
      rw [e1, e2, EM.out, e3, e4]
      refine neg h1 (neg h2 (pos h3 (Ev.step (fun k => by rw [api_Mark_27.j4]) ?_)))
      rw [e5]; exact hZ
    · obtain ⟨Z, hZ, hC⟩ := key a m (by omega) (by omega) (by omega) (by omega) (.inl rfl) (by omega) (by omega) (.inl rfl)
      refine ⟨Z, Ev.step (fun k => by rw [api_Mark_27.f]) ?_, hC⟩
      rw [e1, e2, EM.out, e3]
      refine neg h1 (neg h2 (neg h3 (Ev.step (fun k => by rw [api_Mark_27.j4]) ?_)))
      rw [e5]; exact hZ

/-- The sort of up to forty: sorted, and stable. -/
theorem stable (L : List S26) (hB : Bd L) (hl : L.length ≤ 40) : ∃ Z, Ev (fun k => api_Mark_21.f k L L.length) Z ∧ Srt Z ∧ St L Z := by
  unfold api_Mark_21.f
  have w20 : wrap64 (20 + 20) = 40 := w64 (by omega) (by omega)
  have w40 : wrap64 (2 * 20) = 40 := w64 (by omega) (by omega)
  have w40' : wrap64 (20 * 2) = 40 := w64 (by omega) (by omega)
  have w60 : wrap64 (40 + 20) = 60 := w64 (by omega) (by omega)
  have w80 : wrap64 (40 + 40) = 80 := w64 (by omega) (by omega)
  have w0 : wrap64 (0 + 20) = 20 := w64 (by omega) (by omega)
  by_cases h1 : L.length < 20
  · obtain ⟨Z, hZ, hS, hT⟩ := insertion [] L [] 0 L.length rfl (by simp) hB (by simp; omega)
    simp only [List.nil_append, List.append_nil] at hZ
    refine ⟨Z, Ev.step (fun k => by rw [api_Mark_21.l0]) (neg (by omega) (Ev.bind hZ (Ev.step (fun k => by rw [api_Mark_21.l1]) (neg (by omega) (Ev.now _))))), hS, hT⟩
  · obtain ⟨P, hP⟩ : ∃ P, P = L.take 20 := ⟨_, rfl⟩
    obtain ⟨R, hR⟩ : ∃ R, R = L.drop 20 := ⟨_, rfl⟩
    have e : L = P ++ R := by rw [hP, hR, List.take_append_drop]
    have lp : P.length = 20 := by rw [hP, List.length_take]; omega
    have lr : L.length = 20 + R.length := by rw [e, List.length_append, lp]
    have hB' := hB
    rw [e, Bd_app] at hB'
    obtain ⟨Z1, hZ1, hS1, hT1⟩ := insertion [] P R 0 20 rfl (by simp [lp]) hB'.1 (by simp; omega)
    have lz1 : Z1.length = 20 := by rw [← hT1.len, lp]
    obtain ⟨Z2, hZ2, hS2, hT2⟩ := insertion Z1 R [] 20 L.length (by omega) (by omega) hB'.2 (by simp; omega)
    have lz2 : Z2.length = R.length := hT2.len.symm
    simp only [List.nil_append, List.append_nil] at hZ1 hZ2
    rw [← e] at hZ1
    have hTT : St L (Z1 ++ Z2) := by rw [e]; exact St.append hT1 hT2
    by_cases h2 : L.length = 20
    · have : Z2 = [] := List.length_eq_zero_iff.1 (by omega)
      subst this
      rw [List.append_nil] at hZ2 hTT
      refine ⟨Z1, Ev.step (fun k => by rw [api_Mark_21.l0]) (pos (by omega) (Ev.bind hZ1 (Ev.step (fun k => by rw [api_Mark_21.l0]) ?_))), hS1, hTT⟩
      rw [w20]
      exact neg (by omega) (Ev.bind hZ2 (Ev.step (fun k => by rw [api_Mark_21.l1]) (neg (by omega) (Ev.now _))))
    · obtain ⟨Z, hZ, hS, hT⟩ := symMerge (Z1.length + Z2.length) [] Z1 Z2 [] 0 20 L.length rfl (by omega) (by omega) (by simpa using (Bd.of hTT hB)) hS1 hS2 rfl (by simp [lz1]) (by simp; omega) (by simp; omega)
      simp only [List.nil_append, List.append_nil] at hZ
      have hfin := St.trans hTT hT
      by_cases h3 : L.length = 40
      · obtain ⟨Z3, hZ3, hS3, hT3⟩ := insertion (Z1 ++ Z2) [] [] 40 L.length (by simp; omega) (by simp; omega) (by intro x hx; simp at hx) (by simp; omega)
        have : Z3 = [] := List.length_eq_zero_iff.1 (by rw [← hT3.len]; rfl)
        subst this
        simp only [List.append_nil] at hZ3
        have h40 : ((L.length : Nat) : Int) = 40 := by omega
        refine ⟨Z, Ev.step (fun k => by rw [api_Mark_21.l0]) (pos (by omega) (Ev.bind hZ1 (Ev.step (fun k => by rw [api_Mark_21.l0]) ?_))), hS, hfin⟩
        rw [w20]
        rw [h40] at hZ2 hZ3 hZ ⊢
        refine pos (by omega) (Ev.bind hZ2 (Ev.step (fun k => by rw [api_Mark_21.l0]) ?_))
        rw [w60]
        refine neg (by omega) (Ev.bind hZ3 (Ev.step (fun k => by rw [api_Mark_21.l1]) (pos (by omega) (Ev.step (fun k => by rw [api_Mark_21.l2]) ?_))))
        rw [w40, w0]
        refine pos (by omega) (Ev.bind hZ (Ev.step (fun k => by rw [api_Mark_21.l2]) ?_))
        rw [w40, w80, w60, w40']
        exact neg (by omega) (neg (by omega) (Ev.step (fun k => by rw [api_Mark_21.l1]) (neg (by omega) (Ev.now _))))
      · refine ⟨Z, Ev.step (fun k => by rw [api_Mark_21.l0]) (pos (by omega) (Ev.bind hZ1 (Ev.step (fun k => by rw [api_Mark_21.l0]) ?_))), hS, hfin⟩
        rw [w20]
        refine neg (by omega) (Ev.bind hZ2 (Ev.step (fun k => by rw [api_Mark_21.l1]) (pos (by omega) (Ev.step (fun k => by rw [api_Mark_21.l2]) ?_))))
        rw [w40, w0, w40']
        refine neg (by omega) (pos (by omega) (Ev.bind hZ (Ev.step (fun k => by rw [api_Mark_21.l1]) (neg (by omega) (Ev.now _)))))
end Go.Proofs.Ythlhcclgngncbaa.Pl
