/- Plain laws of the stable sort: insertion sort, symMerge. -/
import Derived.Test.YthlhcclgngncbaaPlA
import Derived.Test.YthlhcclgngncbaaQMnx5
import Derived.Test.YthlhcclgngncbaaQMnx7
namespace Go.Proofs.Ythlhcclgngncbaa.Pl
open Go.RowKit Go.Proofs.Ythlhcclgngncbaa.QMn Go.Proofs.YthlhcclgngncbaaW.PrintWords Go.Proofs.YthlhcclgngncbaaW.PrintLast Go.Proofs.YthlhcclgngncbaaW.PrintMore

def Srt (l : List S26) : Prop := l.Pairwise fun x y => x.f1 ≤ y.f1
/-- The same elements, those of one place in the same order. -/
def St (a b : List S26) : Prop := a.Perm b ∧ ∀ v : Int, a.filter (fun x => decide (x.f1 = v)) = b.filter (fun x => decide (x.f1 = v))
def Bd (l : List S26) : Prop := ∀ x ∈ l, 0 ≤ x.f1 ∧ x.f1 ≤ 4096

theorem St.refl (a : List S26) : St a a := ⟨List.Perm.refl _, fun _ => rfl⟩
theorem St.trans {a b c : List S26} (h : St a b) (k : St b c) : St a c := ⟨h.1.trans k.1, fun v => (h.2 v).trans (k.2 v)⟩
theorem St.append {a b c d : List S26} (h : St a b) (k : St c d) : St (a ++ c) (b ++ d) := ⟨h.1.append k.1, fun v => by rw [List.filter_append, List.filter_append, h.2 v, k.2 v]⟩
theorem St.swap {a b : List S26} (h : ∀ x ∈ a, ∀ y ∈ b, y.f1 < x.f1) : St (a ++ b) (b ++ a) := by
  refine ⟨List.perm_append_comm, fun v => ?_⟩
  rw [List.filter_append, List.filter_append]
  by_cases ha : ∃ x ∈ a, x.f1 = v
  · obtain ⟨x, hx, e⟩ := ha
    have : b.filter (fun x => decide (x.f1 = v)) = [] := by
      rw [List.filter_eq_nil_iff]
      intro y hy
      have := h x hx y hy
      simp; omega
    rw [this]; simp
  · have : a.filter (fun x => decide (x.f1 = v)) = [] := by
      rw [List.filter_eq_nil_iff]
      intro x hx
      simp only [decide_eq_true_eq]
      exact fun e => ha ⟨x, hx, e⟩
    rw [this]; simp
theorem St.mem {a b : List S26} (h : St a b) {x : S26} : x ∈ a ↔ x ∈ b := h.1.mem_iff
theorem St.len {a b : List S26} (h : St a b) : a.length = b.length := h.1.length_eq
theorem Bd.of {a b : List S26} (h : St a b) (k : Bd a) : Bd b := fun x hx => k x (h.mem.2 hx)

theorem ahead_lt (x y : S26) (hx : 0 ≤ x.f1 ∧ x.f1 ≤ 4096) (hy : 0 ≤ y.f1 ∧ y.f1 ≤ 4096) : marks_ahead.f x.f0 x.f1 y.f0 y.f1 = some (x.f1 - y.f1) := by
  unfold marks_ahead.f
  rw [w64 (by omega) (by omega)]

/-- Insertion: x goes to its place among P1 ++ P2. -/
theorem inner_ev (A T : List S26) (a b i : Int) (C : List S26 → Prop) (x : S26) (hx : 0 ≤ x.f1 ∧ x.f1 ≤ 4096) (ha : a = A.length) (hi : wrap64 (i + 1) = i + 1) :
    ∀ (n : Nat) (P1 P2 : List S26) (j : Int), P1.length = n → Bd P1 → Srt (P1 ++ P2) → (∀ y ∈ P2, x.f1 < y.f1) → j = A.length + P1.length → ((A ++ P1 ++ x :: P2 ++ T).length : Int) < 4611686018427387904 →
    (∀ Q, Srt Q → St (P1 ++ x :: P2) Q → ∃ Z, Ev (fun k => api_Mark_26.l0 k (A ++ Q ++ T) a b (i + 1)) Z ∧ C Z) →
    ∃ Z, Ev (fun k => api_Mark_26.l1 k (A ++ P1 ++ x :: P2 ++ T) a b i j) Z ∧ C Z := by
  intro n
  induction n with
  | zero =>
    intro P1 P2 j hn hB hS hP hj hl hc
    have : P1 = [] := List.length_eq_zero_iff.1 hn
    subst this
    obtain ⟨Z, hZ, hC⟩ := hc (x :: P2) (List.pairwise_cons.2 ⟨fun y hy => by have := hP y hy; omega, (by rw [List.nil_append] at hS; exact hS)⟩) (St.refl _)
    refine ⟨Z, Ev.step (fun k => by rw [api_Mark_26.l1]) (neg (by simp at hj; omega) ?_), hC⟩
    rw [hi]
    simpa using hZ
  | succ n ih =>
    intro P1 P2 j hn hB hS hP hj hl hc
    obtain ⟨P, p, rfl⟩ : ∃ P p, P1 = P ++ [p] := ⟨P1.dropLast, P1.getLast (by intro e; subst e; simp at hn), (List.dropLast_concat_getLast _).symm⟩
    have lp : P.length = n := by simpa using hn
    have L1 : ((A ++ (P ++ [p]) ++ x :: P2 ++ T).length : Int) = A.length + P.length + 1 + (P2.length + 1) + T.length := by simp; omega
    have hj' : j = A.length + P.length + 1 := by rw [hj]; simp; omega
    have e1 : wrap64 (j - 1) = A.length + P.length := by rw [w64 (by omega) (by omega)]; omega
    have hp := hB p (by simp)
    have e2 : rd_T26 (A ++ (P ++ [p]) ++ x :: P2 ++ T) j = x := by
      have : A ++ (P ++ [p]) ++ x :: P2 ++ T = (A ++ (P ++ [p])) ++ x :: (P2 ++ T) := by simp
      rw [this]; exact rd_at _ _ x j (by simp; omega)
    have e3 : rd_T26 (A ++ (P ++ [p]) ++ x :: P2 ++ T) (A.length + P.length) = p := by
      have : A ++ (P ++ [p]) ++ x :: P2 ++ T = (A ++ P) ++ p :: (x :: P2 ++ T) := by simp
      rw [this]; exact rd_at _ _ p _ (by simp)
    have e4 := ahead_lt x p hx hp
    have e5 := swap_two (A ++ P) [] (P2 ++ T) p x (A.length + P.length) j (by simp) (by simp; omega)
    by_cases hlt : x.f1 < p.f1
    · have hS' : Srt (P ++ p :: P2) := by simpa using hS
      obtain ⟨Z, hZ, hC⟩ := ih P (p :: P2) (A.length + P.length) lp (fun y hy => hB y (by simp [hy])) hS' (fun y hy => by
          rcases List.mem_cons.1 hy with rfl | hy
          · exact hlt
          · exact hP y hy) rfl (by simp at hl ⊢; omega) (fun Q hQ hQS => hc Q hQ (St.trans (by
          have e : P ++ [p] ++ x :: P2 = P ++ (([p] ++ [x]) ++ P2) := by simp
          have e' : P ++ x :: p :: P2 = P ++ (([x] ++ [p]) ++ P2) := by simp
          rw [e, e']
          exact St.append (St.refl _) (St.append (St.swap (by simpa using hlt)) (St.refl _))) hQS))
      refine ⟨Z, Ev.step (fun k => by rw [api_Mark_26.l1]) ?_, hC⟩
      refine pos (by omega) (pos (by omega) (pos (by rw [L1]; omega) (pos (by rw [e1]; omega) (pos (by rw [e1, L1]; omega) ?_))))
      simp only [e1, e2, e3, e4, Option.bind_some]
      refine pos (by omega) ?_
      have e6 : (A ++ (P ++ [p]) ++ x :: P2 ++ T) = (A ++ P) ++ p :: ([] ++ x :: (P2 ++ T)) := by simp
      have e7 : (((A ++ (P ++ [p]) ++ x :: P2 ++ T).set j.toNat ⟨p.f0, p.f1⟩).set ((A.length : Int) + P.length).toNat ⟨x.f0, x.f1⟩) = A ++ P ++ x :: (p :: P2) ++ T := by
        have h1 : (A ++ (P ++ [p]) ++ x :: P2 ++ T) = (A ++ P ++ [p]) ++ x :: (P2 ++ T) := by simp
        rw [h1, set_at _ _ x ⟨p.f0, p.f1⟩ j.toNat (by simp; omega)]
        have h2 : (A ++ P ++ [p]) ++ (⟨p.f0, p.f1⟩ : S26) :: (P2 ++ T) = (A ++ P) ++ p :: (p :: (P2 ++ T)) := by simp
        rw [h2, set_at _ _ p ⟨x.f0, x.f1⟩ _ (by simp; omega)]
        simp
      rw [e7]
      exact hZ
    · obtain ⟨Z, hZ, hC⟩ := hc (P ++ [p] ++ x :: P2) (by
          have hS' : Srt (P ++ [p] ++ P2) := hS
          refine List.pairwise_append.2 ⟨(List.pairwise_append.1 hS').1, List.pairwise_cons.2 ⟨fun y hy => by have := hP y hy; omega, (List.pairwise_append.1 hS').2.1⟩, fun u hu y hy => ?_⟩
          have hup : u.f1 ≤ p.f1 := by
            rcases List.mem_append.1 hu with h | h
            · exact (List.pairwise_append.1 (List.pairwise_append.1 hS').1).2.2 u h p (by simp)
            · simp at h; subst h; omega
          rcases List.mem_cons.1 hy with rfl | hy
          · omega
          · have := hP y hy; omega) (St.refl _)
      refine ⟨Z, Ev.step (fun k => by rw [api_Mark_26.l1]) ?_, hC⟩
      refine pos (by omega) (pos (by omega) (pos (by rw [L1]; omega) (pos (by rw [e1]; omega) (pos (by rw [e1, L1]; omega) ?_))))
      simp only [e1, e2, e3, e4, Option.bind_some]
      refine neg (by omega) ?_
      rw [hi]
      simpa using hZ

theorem outer_ev (A B : List S26) (a b : Int) (ha : a = A.length) : ∀ (R P : List S26) (i : Int), Srt P → Bd P → Bd R → i = A.length + P.length → 0 < P.length → b = A.length + P.length + R.length → ((A ++ P ++ R ++ B).length : Int) < 4611686018427387904 →
    ∃ Z, Ev (fun k => api_Mark_26.l0 k (A ++ P ++ R ++ B) a b i) (A ++ Z ++ B) ∧ Srt Z ∧ St (P ++ R) Z := by
  intro R
  induction R with
  | nil =>
    intro P i hS hP hR hi h0 hb hl
    refine ⟨P, Ev.step (fun k => by rw [api_Mark_26.l0]) (neg (by simp at hb; omega) ?_), hS, by simpa using St.refl P⟩
    simpa using Ev.now _
  | cons x R ih =>
    intro P i hS hP hR hi h0 hb hl
    have L1 : ((A ++ P ++ x :: R ++ B).length : Int) = A.length + P.length + (R.length + 1) + B.length := by simp; omega
    have hi1 : wrap64 (i + 1) = i + 1 := w64 (by omega) (by omega)
    have hx := hR x (by simp)
    obtain ⟨Z', hZ, Z, rfl, hC⟩ := inner_ev A (R ++ B) a b i (fun Z' => ∃ Z, Z' = A ++ Z ++ B ∧ Srt Z ∧ St (P ++ x :: R) Z) x hx ha hi1 P.length P [] i rfl hP (by simpa using hS) (by simp) hi (by simp at hl ⊢; omega) (fun Q hQ hSt => by
      have lq : Q.length = P.length + 1 := by rw [← hSt.len]; simp
      obtain ⟨Z, hZ, hSZ, hStZ⟩ := ih Q (i + 1) hQ (Bd.of hSt (fun y hy => by rcases List.mem_append.1 hy with h | h; exact hP y h; simp at h; subst h; exact hx)) (fun y hy => hR y (by simp [hy])) (by omega) (by omega) (by simp at hb; omega) (by simp at hl ⊢; omega)
      refine ⟨A ++ Z ++ B, by simpa using hZ, Z, rfl, hSZ, St.trans ?_ hStZ⟩
      have e : P ++ x :: R = (P ++ x :: []) ++ R := by simp
      rw [e]
      exact St.append hSt (St.refl _))
    refine ⟨Z, Ev.step (fun k => by rw [api_Mark_26.l0]) (pos (by simp at hb; omega) ?_), hC⟩
    simpa using hZ

/-- insertionSortCmpFunc(data, a, b). -/
theorem insertion (A S B : List S26) (a b : Int) (ha : a = A.length) (hb : b = A.length + S.length) (hS : Bd S) (hl : ((A ++ S ++ B).length : Int) < 4611686018427387904) :
    ∃ Z, Ev (fun k => api_Mark_26.f k (A ++ S ++ B) a b) (A ++ Z ++ B) ∧ Srt Z ∧ St S Z := by
  have e1 : wrap64 (a + 1) = a + 1 := w64 (by simp at hl; omega) (by simp at hl; omega)
  unfold api_Mark_26.f
  rw [e1]
  cases S with
  | nil =>
    refine ⟨[], Ev.step (fun k => by rw [api_Mark_26.l0]) (neg (by simp at hb; omega) (Ev.now _)), List.Pairwise.nil, St.refl _⟩
  | cons s R =>
    have h := outer_ev A B a b ha R [s] (a + 1) (List.pairwise_singleton _ _) (fun y hy => by simp at hy; subst hy; exact hS _ (by simp)) (fun y hy => hS y (by simp [hy])) (by simp; omega) (by simp) (by simp at hb ⊢; omega) (by simp at hl ⊢; omega)
    simpa using h
end Go.Proofs.Ythlhcclgngncbaa.Pl
