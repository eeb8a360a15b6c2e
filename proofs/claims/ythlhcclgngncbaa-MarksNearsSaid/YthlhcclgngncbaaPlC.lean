/- Plain laws of the stable sort: symMerge. -/
import Derived.Test.YthlhcclgngncbaaPlB
namespace Go.Proofs.Ythlhcclgngncbaa.Pl
open Go.RowKit Go.Proofs.Ythlhcclgngncbaa.QMn Go.Proofs.YthlhcclgngncbaaW.PrintWords Go.Proofs.YthlhcclgngncbaaW.PrintLast Go.Proofs.YthlhcclgngncbaaW.PrintMore

theorem half {i j : Int} (h0 : 0 ≤ i) (h1 : i ≤ j) (h2 : j < 4611686018427387904) : wrap64 ((IntKind.u64.wrap (wrap64 (i + j))) / 2) = (i + j) / 2 := by
  have e1 : wrap64 (i + j) = i + j := w64 (by omega) (by omega)
  have e2 : IntKind.u64.wrap (i + j) = i + j := by
    rw [IntKind.wrap_u64]; omega
  rw [e1, e2, w64 (by omega) (by omega)]

theorem Srt.split {a b : List S26} (h : Srt (a ++ b)) : Srt a ∧ Srt b ∧ ∀ x ∈ a, ∀ y ∈ b, x.f1 ≤ y.f1 := List.pairwise_append.1 h
theorem Srt.join {a b : List S26} (h : Srt a) (k : Srt b) (hk : ∀ x ∈ a, ∀ y ∈ b, x.f1 ≤ y.f1) : Srt (a ++ b) := List.pairwise_append.2 ⟨h, k, hk⟩

/-- A list parted at a place. -/
theorem part_at (Y : List S26) (n : Nat) (h : n < Y.length) : ∃ p y s, Y = p ++ y :: s ∧ p.length = n ∧ Y.take n = p ∧ Y.take (n + 1) = p ++ [y] ∧ Y.drop n = y :: s ∧ Y.drop (n + 1) = s := by
  refine ⟨Y.take n, Y[n], Y.drop (n + 1), ?_, ?_, rfl, ?_, ?_, rfl⟩
  · rw [← List.drop_eq_getElem_cons h, List.take_append_drop]
  · rw [List.length_take]; omega
  · rw [List.take_succ_eq_append_getElem h]
  · rw [List.drop_eq_getElem_cons h]

/-- One element ahead of a run: the binary search. -/
theorem bs1 (A Y B : List S26) (x : S26) (a : Int) (C : List S26 → Prop) (hx : 0 ≤ x.f1 ∧ x.f1 ≤ 4096) (hY : Bd Y) (hS : Srt Y) (ha : a = A.length) (hl : ((A ++ x :: Y ++ B).length : Int) < 4611686018427387904)
    (hc : ∀ n, n ≤ Y.length → (∀ y ∈ Y.take n, y.f1 < x.f1) → (∀ y ∈ Y.drop n, x.f1 ≤ y.f1) → ∃ Z, Ev (fun k => api_Mark_27.l1 k (A ++ x :: Y ++ B) (A.length + 1 + n) a) Z ∧ C Z) :
    ∀ (d i j : Nat), j - i ≤ d → i ≤ j → j ≤ Y.length → (∀ y ∈ Y.take i, y.f1 < x.f1) → (∀ y ∈ Y.drop j, x.f1 ≤ y.f1) →
    ∃ Z, Ev (fun k => api_Mark_27.l0 k (A ++ x :: Y ++ B) a (A.length + 1 + i) (A.length + 1 + j)) Z ∧ C Z := by
  have L1 : ((A ++ x :: Y ++ B).length : Int) = A.length + (Y.length + 1) + B.length := by simp; omega
  have stop : ∀ (i : Nat), i ≤ Y.length → (∀ y ∈ Y.take i, y.f1 < x.f1) → (∀ y ∈ Y.drop i, x.f1 ≤ y.f1) → ∃ Z, Ev (fun k => api_Mark_27.l0 k (A ++ x :: Y ++ B) a (A.length + 1 + i) (A.length + 1 + i)) Z ∧ C Z := by
    intro i hi h1 h2
    obtain ⟨Z, hZ, hC⟩ := hc i hi h1 h2
    exact ⟨Z, Ev.step (fun k => by rw [api_Mark_27.l0]) (neg (by omega) hZ), hC⟩
  intro d
  induction d with
  | zero =>
    intro i j hd hij hj h1 h2
    obtain rfl : i = j := by omega
    exact stop i hj h1 h2
  | succ d ih =>
    intro i j hd hij hj h1 h2
    by_cases he : i = j
    · subst he; exact stop i hj h1 h2
    · have eh0 := half (i := A.length + 1 + i) (j := A.length + 1 + j) (by omega) (by omega) (by omega)
      have EH0 := Aside0.mk eh0
      clear eh0
      obtain ⟨h, hh⟩ : ∃ h : Nat, ((A.length : Int) + 1 + i + (A.length + 1 + j)) / 2 = A.length + 1 + h := ⟨(i + j) / 2, by omega⟩
      have hhi : i ≤ h ∧ h < j := by omega
      obtain ⟨p, y, s, hY', hp, ht0, ht1, hd0, hd1⟩ := part_at Y h (by omega)
      have e2 : rd_T26 (A ++ x :: Y ++ B) (A.length + 1 + h) = y := by
        have : A ++ x :: Y ++ B = (A ++ x :: p) ++ y :: (s ++ B) := by rw [hY']; simp
        rw [this]; exact rd_at _ _ y _ (by simp; omega)
      have e3 : rd_T26 (A ++ x :: Y ++ B) a = x := by
        have : A ++ x :: Y ++ B = A ++ x :: (Y ++ B) := by simp
        rw [this]; exact rd_at _ _ x _ ha
      have hy := hY y (by rw [hY']; simp)
      have e4 := ahead_lt y x hy hx
      have hSs := hS
      rw [hY'] at hSs
      have hsp := hSs.split
      have EH := Aside0.mk (EH0.out.trans hh)
      clear EH0
      by_cases hlt : y.f1 < x.f1
      · obtain ⟨Z, hZ, hC⟩ := ih (h + 1) j (by omega) (by omega) hj (by
            rw [ht1]
            intro u hu
            rcases List.mem_append.1 hu with hu | hu
            · have := hsp.2.2 u hu y (by simp); omega
            · simp at hu; subst hu; exact hlt) h2
        refine ⟨Z, Ev.step (fun k => by rw [api_Mark_27.l0]) ?_, hC⟩
        rw [EH.out]
        refine pos (by omega) (pos (by omega) (pos (by omega) (pos (by omega) (pos (by omega) ?_))))
        simp only [e2, e3, e4, Option.bind_some]
        refine pos (by omega) ?_
        have e5 : wrap64 ((A.length : Int) + 1 + h + 1) = A.length + 1 + ((h + 1 : Nat) : Int) := by rw [w64 (by omega) (by omega)]; omega
        rw [e5]; exact hZ
      · obtain ⟨Z, hZ, hC⟩ := ih i h (by omega) (by omega) (by omega) h1 (by
            rw [hd0]
            intro u hu
            rcases List.mem_cons.1 hu with rfl | hu
            · omega
            · have := (List.pairwise_cons.1 hsp.2.1).1 u hu; omega)
        refine ⟨Z, Ev.step (fun k => by rw [api_Mark_27.l0]) ?_, hC⟩
        rw [EH.out]
        refine pos (by omega) (pos (by omega) (pos (by omega) (pos (by omega) (pos (by omega) ?_))))
        simp only [e2, e3, e4, Option.bind_some]
        exact neg (by omega) hZ

/-- .. and its way to the right. -/
theorem right_ev (T : List S26) (x : S26) (i : Int) : ∀ (Y1 A : List S26) (k0 : Int), k0 = A.length → i = A.length + 1 + Y1.length → ((A ++ x :: Y1 ++ T).length : Int) < 4611686018427387904 →
    Ev (fun k => api_Mark_27.l1 k (A ++ x :: Y1 ++ T) i k0) (A ++ Y1 ++ x :: T) := by
  intro Y1
  induction Y1 with
  | nil =>
    intro A k0 hk hi hl
    have L1 : ((A ++ x :: [] ++ T).length : Int) = A.length + 1 + T.length := by simp; omega
    have e1 : wrap64 (i - 1) = i - 1 := w64 (by simp at hi; omega) (by simp at hi; omega)
    refine Ev.step (fun k => by rw [api_Mark_27.l1]) (neg (by rw [e1]; simp at hi; omega) ?_)
    simpa using Ev.now _
  | cons y Y1 ih =>
    intro A k0 hk hi hl
    have L1 : ((A ++ x :: (y :: Y1) ++ T).length : Int) = A.length + (Y1.length + 1 + 1) + T.length := by simp; omega
    simp only [List.length_cons] at hi
    have e1 : wrap64 (i - 1) = i - 1 := w64 (by omega) (by omega)
    have e2 : wrap64 (k0 + 1) = k0 + 1 := w64 (by omega) (by omega)
    refine Ev.step (fun k => by rw [api_Mark_27.l1]) ?_
    rw [e1, e2]
    refine pos (by omega) (pos (by omega) (pos (by omega) (pos (by omega) (pos (by omega) ?_))))
    have e3 : A ++ x :: (y :: Y1) ++ T = A ++ x :: ([] ++ y :: (Y1 ++ T)) := by simp
    rw [e3, swap_two A [] (Y1 ++ T) x y k0 (k0 + 1) hk (by simp; omega)]
    have e4 : A ++ y :: ([] ++ x :: (Y1 ++ T)) = (A ++ [y]) ++ x :: Y1 ++ T := by simp
    rw [e4]
    have h := ih (A ++ [y]) (k0 + 1) (by simp; omega) (by simp; omega) (by simp at hl ⊢; omega)
    have e5 : A ++ (y :: Y1) ++ x :: T = (A ++ [y]) ++ Y1 ++ x :: T := by simp
    rw [e5]; exact h

/-- One element behind a run: the binary search. -/
theorem bs2 (A X B : List S26) (y : S26) (m : Int) (C : List S26 → Prop) (hy : 0 ≤ y.f1 ∧ y.f1 ≤ 4096) (hX : Bd X) (hS : Srt X) (hm : m = A.length + X.length) (hl : ((A ++ X ++ y :: B).length : Int) < 4611686018427387904)
    (hc : ∀ n, n ≤ X.length → (∀ x ∈ X.take n, x.f1 ≤ y.f1) → (∀ x ∈ X.drop n, y.f1 < x.f1) → ∃ Z, Ev (fun k => api_Mark_27.l3 k (A ++ X ++ y :: B) (A.length + n) m) Z ∧ C Z) :
    ∀ (d i j : Nat), j - i ≤ d → i ≤ j → j ≤ X.length → (∀ x ∈ X.take i, x.f1 ≤ y.f1) → (∀ x ∈ X.drop j, y.f1 < x.f1) →
    ∃ Z, Ev (fun k => api_Mark_27.l2 k (A ++ X ++ y :: B) m (A.length + i) (A.length + j)) Z ∧ C Z := by
  have L1 : ((A ++ X ++ y :: B).length : Int) = A.length + X.length + (B.length + 1) := by simp; omega
  have stop : ∀ (i : Nat), i ≤ X.length → (∀ x ∈ X.take i, x.f1 ≤ y.f1) → (∀ x ∈ X.drop i, y.f1 < x.f1) → ∃ Z, Ev (fun k => api_Mark_27.l2 k (A ++ X ++ y :: B) m (A.length + i) (A.length + i)) Z ∧ C Z := by
    intro i hi h1 h2
    obtain ⟨Z, hZ, hC⟩ := hc i hi h1 h2
    exact ⟨Z, Ev.step (fun k => by rw [api_Mark_27.l2]) (neg (by omega) hZ), hC⟩
  intro d
  induction d with
  | zero =>
    intro i j hd hij hj h1 h2
    obtain rfl : i = j := by omega
    exact stop i hj h1 h2
  | succ d ih =>
    intro i j hd hij hj h1 h2
    by_cases he : i = j
    · subst he; exact stop i hj h1 h2
    · have eh0 := half (i := A.length + i) (j := A.length + j) (by omega) (by omega) (by omega)
      have EH0 := Aside0.mk eh0
      clear eh0
      obtain ⟨h, hh⟩ : ∃ h : Nat, ((A.length : Int) + i + (A.length + j)) / 2 = A.length + h := ⟨(i + j) / 2, by omega⟩
      have hhi : i ≤ h ∧ h < j := by omega
      obtain ⟨p, x, s, hX', hp, ht0, ht1, hd0, hd1⟩ := part_at X h (by omega)
      have e2 : rd_T26 (A ++ X ++ y :: B) (A.length + h) = x := by
        have : A ++ X ++ y :: B = (A ++ p) ++ x :: (s ++ y :: B) := by rw [hX']; simp
        rw [this]; exact rd_at _ _ x _ (by simp; omega)
      have e3 : rd_T26 (A ++ X ++ y :: B) m = y := rd_at _ _ y _ (by simp; omega)
      have hx := hX x (by rw [hX']; simp)
      have e4 := ahead_lt y x hy hx
      have hSs := hS
      rw [hX'] at hSs
      have hsp := hSs.split
      have EH := Aside0.mk (EH0.out.trans hh)
      clear EH0
      by_cases hlt : y.f1 < x.f1
      · obtain ⟨Z, hZ, hC⟩ := ih i h (by omega) (by omega) (by omega) h1 (by
            rw [hd0]
            intro u hu
            rcases List.mem_cons.1 hu with rfl | hu
            · omega
            · have := (List.pairwise_cons.1 hsp.2.1).1 u hu; omega)
        refine ⟨Z, Ev.step (fun k => by rw [api_Mark_27.l2]) ?_, hC⟩
        rw [EH.out]
        refine pos (by omega) (pos (by omega) (pos (by omega) (pos (by omega) (pos (by omega) ?_))))
        simp only [e2, e3, e4, Option.bind_some]
        exact pos (by omega) hZ
      · obtain ⟨Z, hZ, hC⟩ := ih (h + 1) j (by omega) (by omega) hj (by
            rw [ht1]
            intro u hu
            rcases List.mem_append.1 hu with hu | hu
            · have := hsp.2.2 u hu x (by simp); omega
            · simp at hu; subst hu; omega) h2
        refine ⟨Z, Ev.step (fun k => by rw [api_Mark_27.l2]) ?_, hC⟩
        rw [EH.out]
        refine pos (by omega) (pos (by omega) (pos (by omega) (pos (by omega) (pos (by omega) ?_))))
        simp only [e2, e3, e4, Option.bind_some]
        refine neg (by omega) ?_
        have e5 : wrap64 ((A.length : Int) + h + 1) = A.length + ((h + 1 : Nat) : Int) := by rw [w64 (by omega) (by omega)]; omega
        rw [e5]; exact hZ

/-- .. and its way to the left. -/
theorem left_ev (A : List S26) (y : S26) (i : Int) (hi : i = A.length) : ∀ (n : Nat) (X2 T : List S26) (k0 : Int), X2.length = n → k0 = A.length + X2.length → ((A ++ X2 ++ y :: T).length : Int) < 4611686018427387904 →
    Ev (fun k => api_Mark_27.l3 k (A ++ X2 ++ y :: T) i k0) (A ++ y :: X2 ++ T) := by
  intro n
  induction n with
  | zero =>
    intro X2 T k0 hn hk hl
    have : X2 = [] := List.length_eq_zero_iff.1 hn
    subst this
    refine Ev.step (fun k => by rw [api_Mark_27.l3]) (neg (by simp at hk; omega) ?_)
    simpa using Ev.now _
  | succ n ih =>
    intro X2 T k0 hn hk hl
    obtain ⟨P, p, rfl⟩ : ∃ P p, X2 = P ++ [p] := ⟨X2.dropLast, X2.getLast (by intro e; subst e; simp at hn), (List.dropLast_concat_getLast _).symm⟩
    have lp : P.length = n := by simpa using hn
    have L1 : ((A ++ (P ++ [p]) ++ y :: T).length : Int) = A.length + P.length + 1 + (T.length + 1) := by simp; omega
    have hk' : k0 = A.length + P.length + 1 := by rw [hk]; simp; omega
    have e1 : wrap64 (k0 - 1) = A.length + P.length := by rw [w64 (by omega) (by omega)]; omega
    refine Ev.step (fun k => by rw [api_Mark_27.l3]) ?_
    rw [e1]
    refine pos (by omega) (pos (by omega) (pos (by omega) (pos (by omega) (pos (by omega) ?_))))
    have e2 : rd_T26 (A ++ (P ++ [p]) ++ y :: T) k0 = y := rd_at _ _ y _ (by simp; omega)
    have e3 : rd_T26 (A ++ (P ++ [p]) ++ y :: T) (A.length + P.length) = p := by
      have : A ++ (P ++ [p]) ++ y :: T = (A ++ P) ++ p :: (y :: T) := by simp
      rw [this]; exact rd_at _ _ p _ (by simp)
    have e7 : (((A ++ (P ++ [p]) ++ y :: T).set k0.toNat ⟨p.f0, p.f1⟩).set ((A.length : Int) + P.length).toNat ⟨y.f0, y.f1⟩) = A ++ P ++ y :: (p :: T) := by
      rw [set_at (A ++ (P ++ [p])) _ y ⟨p.f0, p.f1⟩ k0.toNat (by simp; omega)]
      have h2 : A ++ (P ++ [p]) ++ (⟨p.f0, p.f1⟩ : S26) :: T = (A ++ P) ++ p :: (p :: T) := by simp
      rw [h2, set_at _ _ p ⟨y.f0, y.f1⟩ _ (by simp; omega)]
    simp only [e2, e3, e7]
    have h := ih P (p :: T) (A.length + P.length) lp rfl (by simp at hl ⊢; omega)
    have e5 : A ++ y :: (P ++ [p]) ++ T = A ++ y :: P ++ (p :: T) := by simp
    rw [e5]; exact h
end Go.Proofs.Ythlhcclgngncbaa.Pl
