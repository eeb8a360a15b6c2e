/- Plain laws of the sort's parts: exchange of two runs, rotation. No Go in it. -/
import Derived.Test.YthlhcclgngncbaaQMnx6
namespace Go.Proofs.Ythlhcclgngncbaa.Pl
open Go.RowKit Go.Proofs.Ythlhcclgngncbaa.QMn Go.Proofs.YthlhcclgngncbaaW.PrintWords Go.Proofs.YthlhcclgngncbaaW.PrintLast Go.Proofs.YthlhcclgngncbaaW.PrintMore

theorem w64 {x : Int} (h0 : -9223372036854775808 ≤ x) (h1 : x < 9223372036854775808) : wrap64 x = x := by unfold wrap64; omega
theorem eta26 (x : S26) : (⟨x.f0, x.f1⟩ : S26) = x := rfl
theorem rd_at (p s : List S26) (x : S26) (i : Int) (h : i = p.length) : rd_T26 (p ++ x :: s) i = x := by
  subst h; simp [rd_T26, List.getD_eq_getElem?_getD]
theorem set_at (p s : List S26) (x y : S26) (n : Nat) (h : n = p.length) : (p ++ x :: s).set n y = p ++ y :: s := by
  subst h; simp
theorem rd_get (L : List S26) (i : Int) (h0 : 0 ≤ i) (h1 : i < L.length) : ∃ p x s, L = p ++ x :: s ∧ (p.length : Int) = i ∧ rd_T26 L i = x := by
  have hl : i.toNat < L.length := by omega
  refine ⟨L.take i.toNat, L[i.toNat], L.drop (i.toNat + 1), ?_, ?_, ?_⟩
  · rw [← List.drop_eq_getElem_cons hl, List.take_append_drop]
  · rw [List.length_take]; omega
  · simp [rd_T26, hl]

theorem pos {α : Type} {c : Prop} [Decidable c] {f g : Nat → Option α} {r : α} (h : c) (hf : Ev f r) : Ev (fun k => if c then f k else g k) r := by
  simp only [if_pos h]; exact hf
theorem neg {α : Type} {c : Prop} [Decidable c] {f g : Nat → Option α} {r : α} (h : ¬ c) (hg : Ev g r) : Ev (fun k => if c then f k else g k) r := by
  simp only [if_neg h]; exact hg

/-- One loop step's exchange. -/
theorem swap_two (A M B : List S26) (x y : S26) (i j : Int) (hi : i = A.length) (hj : j = A.length + 1 + M.length) :
    ((A ++ x :: (M ++ y :: B)).set i.toNat ⟨(rd_T26 (A ++ x :: (M ++ y :: B)) j).f0, (rd_T26 (A ++ x :: (M ++ y :: B)) j).f1⟩).set j.toNat ⟨(rd_T26 (A ++ x :: (M ++ y :: B)) i).f0, (rd_T26 (A ++ x :: (M ++ y :: B)) i).f1⟩ = A ++ y :: (M ++ x :: B) := by
  have e1 : rd_T26 (A ++ x :: (M ++ y :: B)) i = x := rd_at A _ x i hi
  have e2 : rd_T26 (A ++ x :: (M ++ y :: B)) j = y := by
    have : A ++ x :: (M ++ y :: B) = (A ++ x :: M) ++ y :: B := by simp
    rw [this]; exact rd_at _ _ y j (by simp; omega)
  rw [e1, e2, eta26, eta26, set_at A _ x y i.toNat (by omega)]
  have : A ++ y :: (M ++ y :: B) = (A ++ y :: M) ++ y :: B := by simp
  rw [this, set_at _ _ y x j.toNat (by simp; omega)]
  simp

/-- swapRangeCmpFunc: two runs of one length change places. -/
theorem swapRange_ev (A M B : List S26) (a b n : Int) (ha : a = A.length) (Y : List S26) : ∀ (X U V : List S26), X.length = Y.length → U.length = V.length → b = A.length + V.length + X.length + M.length → n = V.length + X.length →
    (A.length + V.length + X.length + M.length + U.length + Y.length + B.length : Int) < 4611686018427387904 →
    Ev (fun k => api_Mark_31.l0 k (A ++ V ++ X ++ M ++ U ++ Y ++ B) a b n V.length) (A ++ V ++ Y ++ M ++ U ++ X ++ B) := by
  induction Y with
  | nil =>
    intro X U V hXY hUV hb hn hl
    have : X = [] := List.length_eq_zero_iff.1 hXY
    subst this
    refine Ev.step (fun k => by rw [api_Mark_31.l0]) ?_
    refine neg (by simp at hn; omega) ?_
    exact Ev.now _
  | cons y Y ih =>
    intro X U V hXY hUV hb hn hl
    cases X with
    | nil => cases hXY
    | cons x X =>
      simp only [List.length_cons] at hXY hb hn hl
      have e1 : wrap64 (b + V.length) = b + V.length := w64 (by omega) (by omega)
      have e2 : wrap64 (a + V.length) = a + V.length := w64 (by omega) (by omega)
      have e3 : wrap64 ((V.length : Int) + 1) = ((V ++ [y]).length : Int) := by rw [w64 (by omega) (by omega)]; simp
      refine Ev.step (fun k => by rw [api_Mark_31.l0]) ?_
      rw [e1, e2, e3]
      have L1 : ((A ++ V ++ x :: X ++ M ++ U ++ y :: Y ++ B).length : Int) = A.length + V.length + (X.length + 1) + M.length + U.length + (Y.length + 1) + B.length := by simp; omega
      refine pos (by omega) (pos (by omega) (pos (by rw [L1]; omega) (pos (by omega) (pos (by rw [L1]; omega) ?_))))
      have e4 : A ++ V ++ x :: X ++ M ++ U ++ y :: Y ++ B = (A ++ V) ++ x :: ((X ++ M ++ U) ++ y :: (Y ++ B)) := by simp
      rw [e4, swap_two (A ++ V) (X ++ M ++ U) (Y ++ B) x y (a + V.length) (b + V.length) (by simp; omega) (by simp; omega)]
      have e5 : (A ++ V) ++ y :: ((X ++ M ++ U) ++ x :: (Y ++ B)) = A ++ (V ++ [y]) ++ X ++ M ++ (U ++ [x]) ++ Y ++ B := by simp
      rw [e5]
      have ih := ih X (U ++ [x]) (V ++ [y]) (by omega) (by simp; omega) (by simp; omega) (by simp; omega) (by simp; omega)
      have e6 : A ++ V ++ y :: Y ++ M ++ U ++ x :: X ++ B = A ++ (V ++ [y]) ++ Y ++ M ++ (U ++ [x]) ++ X ++ B := by simp
      rw [e6]
      exact ih

theorem swapRange (A X M Y B : List S26) (a b n : Int) (hXY : X.length = Y.length) (ha : a = A.length) (hb : b = A.length + X.length + M.length) (hn : n = X.length)
    (hl : ((A ++ X ++ M ++ Y ++ B).length : Int) < 4611686018427387904) : Ev (fun k => api_Mark_31.f k (A ++ X ++ M ++ Y ++ B) a b n) (A ++ Y ++ M ++ X ++ B) := by
  have h := swapRange_ev A M B a b n ha Y X [] [] hXY rfl (by simpa using hb) (by simpa using hn) (by simp at hl ⊢; omega)
  simpa [api_Mark_31.f] using h

/-- rotateCmpFunc's loop: two runs side by side change places. -/
theorem rotate_ev : ∀ (s : Nat) (A X Y B : List S26) (m i j : Int), X.length + Y.length = s → 0 < X.length → 0 < Y.length → i = X.length → j = Y.length → m = A.length + X.length → ((A ++ X ++ Y ++ B).length : Int) < 4611686018427387904 →
    Ev (fun k => api_Mark_29.l0 k (A ++ X ++ Y ++ B) m i j) (A ++ Y ++ X ++ B) := by
  intro s
  induction s using Nat.strongRecOn with
  | _ s ih =>
    intro A X Y B m i j hs hX hY hi hj hm hl
    have L1 : ((A ++ X ++ Y ++ B).length : Int) = A.length + X.length + Y.length + B.length := by simp; omega
    have e1 : wrap64 (m - i) = A.length := by rw [w64 (by omega) (by omega)]; omega
    refine Ev.step (fun k => by rw [api_Mark_29.l0]) ?_
    simp only [e1]
    by_cases h1 : i = j
    · refine pos h1 ?_
      have h := swapRange A X [] Y B A.length m i (by omega) rfl (by simp; omega) hi (by simpa using hl)
      simp only [List.append_nil] at h
      exact Ev.bind h (Ev.now _)
    · refine neg h1 ?_
      by_cases h2 : i > j
      · refine pos h2 ?_
        have hx : X = X.take Y.length ++ X.drop Y.length := (List.take_append_drop _ _).symm
        obtain ⟨X1, hX1⟩ : ∃ X1, X1 = X.take Y.length := ⟨_, rfl⟩
        obtain ⟨X2, hX2⟩ : ∃ X2, X2 = X.drop Y.length := ⟨_, rfl⟩
        rw [← hX1, ← hX2] at hx
        have l1 : X1.length = Y.length := by rw [hX1, List.length_take]; omega
        have l2 : X2.length = X.length - Y.length := by rw [hX2, List.length_drop]
        have lx : X.length = X1.length + X2.length := by rw [hx]; simp
        subst hx
        have h := swapRange A X1 X2 Y B A.length m j l1 rfl (by omega) (by omega) (by simpa using hl)
        have e2 : A ++ (X1 ++ X2) ++ Y ++ B = A ++ X1 ++ X2 ++ Y ++ B := by simp
        have e3 : wrap64 (i - j) = X2.length := by rw [w64 (by omega) (by omega)]; omega
        rw [e2]
        refine Ev.bind h ?_
        rw [e3]
        have g := ih (X2.length + X1.length) (by omega) (A ++ Y) X2 X1 B m X2.length j rfl (by omega) (by omega) rfl (by omega) (by simp; omega) (by simp at hl ⊢; omega)
        simpa using g
      · refine neg h2 ?_
        obtain ⟨Y1, hY1⟩ : ∃ Y1, Y1 = Y.take (Y.length - X.length) := ⟨_, rfl⟩
        obtain ⟨Y2, hY2⟩ : ∃ Y2, Y2 = Y.drop (Y.length - X.length) := ⟨_, rfl⟩
        have hy : Y = Y1 ++ Y2 := by rw [hY1, hY2, List.take_append_drop]
        have l2 : Y2.length = X.length := by rw [hY2, List.length_drop]; omega
        have ly : Y.length = Y1.length + Y2.length := by rw [hy]; simp
        subst hy
        have e4 : wrap64 (wrap64 (m + j) - i) = A.length + X.length + Y1.length := by rw [w64 (x := m + j) (by omega) (by omega), w64 (by omega) (by omega)]; omega
        have h := swapRange A X Y1 Y2 B A.length (A.length + X.length + Y1.length) i l2.symm rfl rfl hi (by simpa using hl)
        have e2 : A ++ X ++ (Y1 ++ Y2) ++ B = A ++ X ++ Y1 ++ Y2 ++ B := by simp
        have e3 : wrap64 (j - i) = Y1.length := by rw [w64 (by omega) (by omega)]; omega
        rw [e2, e4]
        refine Ev.bind h ?_
        rw [e3]
        have g := ih (Y2.length + Y1.length) (by omega) A Y2 Y1 (X ++ B) m i Y1.length rfl (by omega) (by omega) (by omega) rfl (by omega) (by simp at hl ⊢; omega)
        simpa using g

theorem rotate (A X Y B : List S26) (a m b : Int) (hX : 0 < X.length) (hY : 0 < Y.length) (ha : a = A.length) (hm : m = A.length + X.length) (hb : b = A.length + X.length + Y.length) (hl : ((A ++ X ++ Y ++ B).length : Int) < 4611686018427387904) :
    Ev (fun k => api_Mark_29.f k (A ++ X ++ Y ++ B) a m b) (A ++ Y ++ X ++ B) := by
  have L1 : ((A ++ X ++ Y ++ B).length : Int) = A.length + X.length + Y.length + B.length := by simp; omega
  have e1 : wrap64 (m - a) = X.length := by rw [w64 (by omega) (by omega)]; omega
  have e2 : wrap64 (b - m) = Y.length := by rw [w64 (by omega) (by omega)]; omega
  unfold api_Mark_29.f
  rw [e1, e2]
  exact rotate_ev _ A X Y B m _ _ rfl hX hY rfl rfl hm hl
end Go.Proofs.Ythlhcclgngncbaa.Pl
