/- slices.Clone, slices.IndexFunc and marks.Set's closure, in the print's form. -/
import Derived.Test.YthlhcclgngncbaaIns2
import Derived.WalkLawsBesides
import Derived.WalkSpells
namespace Go.Proofs.Ythlhcclgngncbaa.QMn
open Go.RowKit Go.Lib Go.Proofs.YthlhcclgngncbaaW.PrintWords Go.Proofs.YthlhcclgngncbaaW.PrintLast Go.Proofs.YthlhcclgngncbaaW.PrintMore
set_option linter.unusedVariables false
set_option linter.unusedSimpArgs false

/-- Go's '>' on strings. -/
def gtS (a b : ByteArray) : Bool := !Op.bytesLess a.toList b.toList && !(a.toList == b.toList)

theorem set1_calls (x0 : ByteArray) (x1 : Int) (nm : ByteArray) (B : Nat) (w : World) (hB : w.cell? ⟨B, 0, none⟩ = some (.string nm)) :
    Calls Try.prog 19 #[.agg #[.string x0, .int .i64 x1], .pointer (some ⟨B, 0, none⟩)] w fun e w' => e = .returned (.bool (gtS x0 nm)) ∧ Below w.heap.size w w' := by
  have hlt : B < w.heap.size := World.block_lt_of_cell? w ⟨B, 0, none⟩ hB
  have hu26 := Try.underlying26
  go_enter Try.func19, Try.ntmps19
  go_wp2
  go_ret
  exact ⟨rfl, below_alloc (Below.refl _ _) _⟩

/-- The first place at which a name is greater, from place i on; -1: there is none. -/
def idxGt (nm : ByteArray) : List S26 → Int → Int
  | [], _ => -1
  | x :: r, i => if gtS x.f0 nm then i else idxGt nm r (i + 1)

set_option maxHeartbeats 4000000 in
theorem index_calls (A0 : Option Addr) (c0 : Nat) (l0 : List S26) (nm : ByteArray) (B : Nat) (w : World) (hr0 : Kd.C k26 w A0 l0.length l0) (hB : w.cell? ⟨B, 0, none⟩ = some (.string nm)) :
    Calls Try.prog 18 #[.slice A0 l0.length c0, .func (.func 19) #[] #[.pointer (some ⟨B, 0, none⟩)]] w fun e w' => e = .returned (.int .i64 (idxGt nm l0 0)) ∧ Below w.heap.size w w' := by
  have hlt : B < w.heap.size := World.block_lt_of_cell? w ⟨B, 0, none⟩ hB
  have hu26 := Try.underlying26
  have hlm : l0.length ≤ 9223372036854775807 := hr0.2.1
  have HR0 := Aside0.mk hr0
  have HBC := Aside0.mk hB
  clear hr0 hB
  go_enter Try.func18, Try.ntmps18
  go_wp2
  go_loopg [5, 8] l0.length (fun kq v5 v8 w' => ∃ i : Nat, i ≤ l0.length ∧ l0.length - i ≤ kq ∧ v8 = .int .i64 i ∧ Aside0 (idxGt nm (l0.drop i) i = idxGt nm l0 0) ∧ Aside0 (Below w.heap.size w w'))
  case atStart => exact ⟨0, by omega, by omega, rfl, ⟨by simp⟩, ⟨Below.refl _ _⟩⟩
  case round =>
    obtain ⟨i, hi, hk, rfl, HI, HB⟩ := hrel
    by_cases hlt' : i < l0.length
    · have hd : l0.drop i = l0[i] :: l0.drop (i + 1) := by rw [List.drop_eq_getElem_cons hlt']
      have HI2 := Aside0.mk (show (if gtS l0[i].f0 nm then (i : Int) else idxGt nm (l0.drop (i + 1)) ((i : Int) + 1)) = idxGt nm l0 0 from by rw [← HI.out, hd]; rfl)
      clear hd HI
      obtain ⟨ad, e1, hx0, hx1⟩ := at_T26 HR0.out (i : Int) (by omega) (by omega)
      subst e1
      replace hx0 := (HB.out.cell (World.block_lt_of_cell? w _ hx0)).trans hx0
      replace hx1 := (HB.out.cell (World.block_lt_of_cell? w _ hx1)).trans hx1
      have hrd : rd_T26 l0 (i : Int) = l0[i] := by unfold rd_T26; simp [hlt']
      rw [hrd] at hx0 hx1
      clear hrd
      have hB' := (HB.out.cell (p := ⟨B, 0, none⟩) hlt).trans HBC.out
      simp only [Int.toNat_natCast] at hx0 hx1
      obtain ⟨y0, hy0⟩ : ∃ y, y = l0[i].f0 := ⟨_, rfl⟩
      obtain ⟨y1, hy1⟩ : ∃ y, y = l0[i].f1 := ⟨_, rfl⟩
      rw [← hy0] at hx0 HI2
      rw [← hy1] at hx1
      clear hy0 hy1
      have hz : (i : Int) < (l0.length : Int) := by omega
      go_wp2_with (go_at_call 19; refine (set1_calls y0 y1 nm B _ hB').mono ?_; rintro e w1 ⟨rfl, hb1⟩)
      · have h1 : gtS y0 nm = true := by assumption
        have hfin : (i : Int) = idxGt nm l0 0 := by rw [← HI2.out, if_pos h1]
        go_ret
        exact ⟨by rw [← hfin]; rfl, below_step HB.out hb1⟩
      · have h1 : gtS y0 nm = false := by assumption
        have hfin : Aside0 (idxGt nm (l0.drop (i + 1)) ((i : Int) + 1) = idxGt nm l0 0) := ⟨by rw [← HI2.out, if_neg (by rw [h1]; decide)]⟩
        clear h1
        go_roundg (l0.length - (i + 1))
        case measure => omega
        case rel => exact ⟨i + 1, by omega, by omega, by go_num, hfin, ⟨below_step HB.out hb1⟩⟩
    · have hz : ¬ (i : Int) < (l0.length : Int) := by omega
      have hfin : (-1 : Int) = idxGt nm l0 0 := by rw [← HI.out, List.drop_eq_nil_of_le (by omega)]; rfl
      clear hi hk hlt'
      go_wp2
      go_ret
      exact ⟨by rw [← hfin]; rfl, HB.out⟩

/-- A list's cells. -/
def flat26 (l : List S26) : List Value := l.flatMap fun x => [.string x.f0, .int .i64 x.f1]
theorem flat26_len (l : List S26) : (flat26 l).length = l.length * 2 := by
  induction l with
  | nil => rfl
  | cons x r ih =>
    have : flat26 (x :: r) = [.string x.f0, .int .i64 x.f1] ++ flat26 r := rfl
    rw [this, List.length_append, ih, List.length_cons]
    simp; omega
theorem flat26_get (l : List S26) : ∀ (j : Nat) (p : S26), l[j]? = some p → ((flat26 l).drop (j * 2)).take 2 = [.string p.f0, .int .i64 p.f1] := by
  induction l with
  | nil => intro j p h; simp at h
  | cons x r ih =>
    intro j p h
    have e : flat26 (x :: r) = .string x.f0 :: .int .i64 x.f1 :: flat26 r := rfl
    cases j with
    | zero => simp at h; subst h; rw [e]; rfl
    | succ j =>
      rw [e, show (j + 1) * 2 = j * 2 + 1 + 1 by omega]
      simp only [List.drop_succ_cons]
      exact ih j p (by simpa using h)
theorem flat26_append (a b : List S26) : flat26 (a ++ b) = flat26 a ++ flat26 b := by simp [flat26]
theorem flat26_take (l : List S26) (i : Nat) : flat26 (l.take i) = (flat26 l).take (i * 2) := by
  induction l generalizing i with
  | nil => simp [flat26]
  | cons x r ih =>
    have e : flat26 (x :: r) = .string x.f0 :: .int .i64 x.f1 :: flat26 r := rfl
    cases i with
    | zero => simp [flat26]
    | succ i => rw [e, List.take_succ_cons, show (i + 1) * 2 = i * 2 + 1 + 1 by omega, List.take_succ_cons, List.take_succ_cons, ← ih]; rfl
theorem flat26_drop (l : List S26) (i : Nat) : flat26 (l.drop i) = (flat26 l).drop (i * 2) := by
  induction l generalizing i with
  | nil => simp [flat26]
  | cons x r ih =>
    have e : flat26 (x :: r) = .string x.f0 :: .int .i64 x.f1 :: flat26 r := rfl
    cases i with
    | zero => simp
    | succ i => rw [e, List.drop_succ_cons, show (i + 1) * 2 = i * 2 + 1 + 1 by omega, List.drop_succ_cons, List.drop_succ_cons, ← ih]
theorem flat26_one (l : List S26) : ∀ u ∈ flat26 l, u.oneCell' = true := by
  intro u hu
  simp only [flat26, List.mem_flatMap, List.mem_cons, List.not_mem_nil, or_false] at hu
  obtain ⟨x, _, rfl | rfl⟩ := hu <;> rfl

theorem own_of_R26 {w : World} {base : Nat} {ok : Nat → Prop} {v : Value} {xs : List S26} (h : Kd.R k26 26 w base ok v xs) : w.ownsRow base 26 2 v xs.length (flat26 xs) := by
  obtain ⟨_, inner, ho, hr⟩ := h
  have hl : inner.length = xs.length * 2 := hr.1
  have : inner = flat26 xs := by
    apply List.ext_getElem (by rw [hl, flat26_len])
    intro i h1 h2
    have hj : i / 2 < xs.length := by omega
    have hM := k26_openM (hr.2 (i / 2) _ (List.getElem?_eq_getElem hj))
    have hF := flat26_get xs (i / 2) _ (List.getElem?_eq_getElem hj)
    have e := hM.trans hF.symm
    have e2 := congrArg (fun l => l[i % 2]?) e
    simp only [show k26.sz = 2 from rfl] at e2
    rw [List.getElem?_take, List.getElem?_take, if_pos (by omega), if_pos (by omega), List.getElem?_drop, List.getElem?_drop, show i / 2 * 2 + i % 2 = i by omega, List.getElem?_eq_getElem h1, List.getElem?_eq_getElem h2] at e2
    exact Option.some.inj e2
  rw [← this]
  exact ho
theorem R26_of_own {w : World} {base : Nat} {ok : Nat → Prop} {v : Value} {xs : List S26} (h : w.ownsRow base 26 2 v xs.length (flat26 xs)) (hok : ∀ k, v.ownBlock = some k → ok k) : Kd.R k26 26 w base ok v xs :=
  ⟨hok, flat26 xs, h, flat26_len xs, fun j p hj => by
    rw [show k26.sz = 2 from rfl, flat26_get xs j p hj]
    exact k26_mkM _ _ _ _⟩
theorem cells_of_C26 {w : World} {ad : Addr} {xs : List S26} (h : Kd.C k26 w (some ad) xs.length xs) : ∀ j u, (flat26 xs)[j]? = some u → w.cell? (ad.add j) = some u := by
  intro j u hj
  have hjl : j < (flat26 xs).length := (List.getElem?_eq_some_iff.1 hj).1
  rw [flat26_len] at hjl
  have hl : j / 2 < xs.length := by omega
  obtain ⟨ad', e, hc⟩ := h.2.2 (by omega)
  cases e
  obtain ⟨c, hs, hK, hcell⟩ := hc (j / 2) _ (List.getElem?_eq_getElem hl)
  obtain rfl := k26_open hK
  have hF := flat26_get xs (j / 2) _ (List.getElem?_eq_getElem hl)
  have := hcell (j % 2) u (by
    rw [← hF, List.getElem?_take, if_pos (by omega), List.getElem?_drop, show j / 2 * 2 + j % 2 = j by omega]
    exact hj)
  rwa [show k26.sz = 2 from rfl, show j / 2 * 2 + j % 2 = j by omega] at this

set_option maxHeartbeats 4000000 in
/-- slices.Clone: the same elements in new memory. -/
theorem clone_calls (A0 : Option Addr) (c0 : Nat) (l0 : List S26) (w : World) (hr0 : Kd.C k26 w A0 l0.length l0) (hbig : l0.length * 24 ≤ 140737488355328) :
    Calls Try.prog 17 #[.slice A0 l0.length c0] w fun e w' => ∃ v, e = .returned v ∧ w'.ownsRow w.heap.size 26 2 v l0.length (flat26 l0) ∧ Below w.heap.size w w' := by
  obtain ⟨i0, hi0, hz0, hzs, hzb⟩ := info_parts Ins.infoAll26
  cases A0 with
  | none =>
    have hn : l0.length = 0 := by
      rcases Nat.eq_zero_or_pos l0.length with h | h
      · exact h
      · obtain ⟨ad, e, _⟩ := hr0.2.2 h
        cases e
    have hl : l0 = [] := List.length_eq_zero_iff.1 hn
    subst hl
    have heq : ∀ W, (binOp .eql 22 (.slice none 0 c0) (.slice none 0 0)).run Try.prog W = .ok (.bool true) W := fun W => Lib.run_eql_slice_nil (P := Try.prog) W 22 26 none 0 c0 0 0 Try.underlying22
    clear hr0 hbig hn
    simp only [List.length_nil]
    go_enter Try.func17, Try.ntmps17
    go_wp2
    go_ret
    exact ⟨_, rfl, World.ownsRow_nil _ _ _ _, Below.refl _ _⟩
  | some ad =>
    have hcl := cells_of_C26 hr0
    have hml : 0 + l0.length ≤ maxLen := by unfold maxLen; omega
    clear hr0
    have heq : ∀ W, (binOp .eql 22 (.slice (some ad) l0.length c0) (.slice none 0 0)).run Try.prog W = .ok (.bool false) W := fun W => Lib.run_eql_slice_nil (P := Try.prog) W 22 26 (some ad) l0.length c0 0 0 Try.underlying22
    have hcl' : ∀ j u, (flat26 l0)[j]? = some u → (w.alloc (.cells #[] 26)).cell? (ad.add j) = some u := fun j u h => (below_alloc (Below.refl w.heap.size w) _).cell (World.block_lt_of_cell? w _ (hcl j u h)) |>.trans (hcl j u h)
    have hown : (w.alloc (.cells #[] 26)).ownsRow w.heap.size 26 2 (.slice (some ⟨w.heap.size, 0, none⟩) 0 0) 0 [] :=
      ⟨rfl, .inr ⟨w.heap.size, 0, #[], rfl, Nat.le_refl _, Array.getElem?_push_size .., Nat.le_refl _, by unfold maxLen; omega, rfl, rfl⟩⟩
    have HOWN := Aside0.mk hown
    have HL := Aside0.mk (flat26_len l0)
    have HONE := Aside0.mk (flat26_one l0)
    clear hcl hown
    obtain ⟨F, hF⟩ : ∃ F, F = flat26 l0 := ⟨_, rfl⟩
    rw [← hF] at HL HONE hcl' ⊢
    have HCL := Aside0.mk hcl'
    clear hF hcl'
    go_enter Try.func17, Try.ntmps17
    go_wp2_with (at_builtin; refine wpList_append_own _ rfl _ _ 22 rfl w.heap.size 26 i0 _ 2 24 Try.underlying22 hi0 hz0 hzs hzb rfl (by decide) (.slice (some ⟨w.heap.size, 0, none⟩) 0 0) 0 [] rfl HOWN.out ad l0.length c0 F rfl HL.out HCL.out HONE.out hml (by rw [Nat.zero_add]; omega) (by simp) ?_; intro v' w1 hown' hgrow _; have HG := Aside0.mk hgrow; have HO := Aside0.mk hown'; clear hgrow hown')
    go_ret
    refine ⟨_, rfl, ?_, ?_⟩
    · simpa using HO.out
    · exact (below_alloc (Below.refl w.heap.size w) (.cells #[] 26)).grown HG.out (by simp) (fun k e => by cases e; exact Nat.le_refl _)
end Go.Proofs.Ythlhcclgngncbaa.QMn
