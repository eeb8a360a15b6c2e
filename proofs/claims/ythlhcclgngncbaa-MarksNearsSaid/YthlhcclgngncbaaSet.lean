/- marks.Set, in the print's form. -/
import Derived.Test.YthlhcclgngncbaaClo
import Derived.Test.YthlhcclgngncbaaQMnx2
import Derived.Deep.RegionWith
import Derived.RegionCalls
namespace Go.Proofs.Ythlhcclgngncbaa.QMn
open Go.RowKit Go.Lib Go.Proofs.YthlhcclgngncbaaW.PrintWords Go.Proofs.YthlhcclgngncbaaW.PrintLast Go.Proofs.YthlhcclgngncbaaW.PrintMore
set_option linter.unusedVariables false
set_option linter.unusedSimpArgs false

def setAt (nm : ByteArray) (l0 : List S26) : Nat := if idxGt nm l0 0 < 0 then l0.length else (idxGt nm l0 0).toNat
def marks_Set.f (k : Nat) (l0 : List S26) (a1_0 : ByteArray) (a1_1 : Int) : Option (List S26 × Int) :=
  (opcode_MayMark.f k a1_0).bind fun b => if b = true then ((marks_at.f k l0 a1_0).bind fun i =>
    if 0 ≤ i then (if i < (l0.length : Int) then (if l0.length < 5864062014805 then some (l0.set i.toNat ⟨a1_0, a1_1⟩, 0) else none) else none)
    else if 16 ≤ (l0.length : Int) then some ([], 9)
    else some (l0.take (setAt a1_0 l0) ++ [⟨a1_0, a1_1⟩] ++ l0.drop (setAt a1_0 l0), 0)) else some ([], 7)

theorem marks_Set.mono : ∀ a0 a1 a2 k, LeO (marks_Set.f k a0 a1 a2) (marks_Set.f (k + 1) a0 a1 a2) := by
  intro a0 a1 a2 k
  unfold marks_Set.f
  refine LeO.bind (opcode_MayMark.mono _ _) (fun b => ?_)
  refine LeO.ite ?_ (LeO.refl _)
  refine LeO.bind (marks_at.mono _ _ _) (fun b => LeO.refl _)

theorem idxGt_le (nm : ByteArray) (l : List S26) : ∀ i : Int, 0 ≤ i → idxGt nm l i ≤ i + l.length ∧ (idxGt nm l i = -1 ∨ i ≤ idxGt nm l i) := by
  induction l with
  | nil => intro i hi; simp [idxGt]; omega
  | cons x r ih =>
    intro i hi
    unfold idxGt
    split
    · simp; omega
    · have := ih (i + 1) (by omega)
      simp only [List.length_cons]
      omega

/-- marks.Set: a name that may not be. -/
theorem set_no (k : Nat) (A0 : Option Addr) (c0 : Nat) (l0 : List S26) (nm : ByteArray) (at_ : Int) (w : World) (hm : opcode_MayMark.f k nm = some false) :
    Calls Try.prog 11 #[.slice A0 l0.length c0, .agg #[.string nm, .int .i64 at_]] w fun e w' => e = .returned (.tuple #[.slice none 0 0, .int .i64 7]) ∧ Below w.heap.size w w' := by
  have hu26 := Try.underlying26
  go_enter Try.func11, Try.ntmps11
  go_wp2_with (go_at_call 15; refine (opcode_MayMark.calls k nm false _ hm).mono ?_; rintro e w1 ⟨rfl, ⟨nd, rfl⟩⟩)
  go_ret2
  exact ⟨rfl, pw_below_drewN (below_alloc (Below.refl _ _) _) _⟩

/-- marks.Set: too many. -/
theorem set_many (k : Nat) (A0 : Option Addr) (c0 : Nat) (l0 : List S26) (nm : ByteArray) (at_ i : Int) (w : World) (hr0 : Kd.C k26 w A0 l0.length l0) (hc0 : l0.length ≤ c0) (hm : opcode_MayMark.f k nm = some true) (ha : marks_at.f k l0 nm = some i) (hi : i < 0) (hl : 16 ≤ l0.length) :
    Calls Try.prog 11 #[.slice A0 l0.length c0, .agg #[.string nm, .int .i64 at_]] w fun e w' => e = .returned (.tuple #[.slice none 0 0, .int .i64 9]) ∧ Below w.heap.size w w' := by
  have hu26 := Try.underlying26
  have HR0 := Aside0.mk hr0
  have HC0 := Aside0.mk hc0
  have hi' : decide (i ≥ 0) = false := decide_eq_false (by omega)
  have hl' : decide ((l0.length : Int) ≥ 16) = true := decide_eq_true (by omega)
  clear hr0 hc0
  go_enter Try.func11, Try.ntmps11
  go_wp2_with (first | (go_at_call 15; refine (opcode_MayMark.calls k nm true _ hm).mono ?_; rintro e w1 ⟨rfl, ⟨nd, rfl⟩⟩) | (go_at_call 16; refine (marks_at.calls k A0 c0 l0 nm i _ (Kd.C_below HR0.out (pw_below_drewN (below_alloc (Below.refl _ _) _) _)) HC0.out ha).mono ?_; rintro e w2 ⟨rfl, hb2⟩))
  go_ret2
  exact ⟨rfl, below_step (pw_below_drewN (below_alloc (Below.refl _ _) _) _) hb2⟩

theorem box_cell (w : World) (a b : Value) (t nd : Nat) (w2 : World) (h : Below ((w.alloc (.cells #[a, b] t)).drewN nd).heap.size ((w.alloc (.cells #[a, b] t)).drewN nd) w2) :
    w2.heap[w.heap.size]? = some (.cells #[a, b] t (0, 0)) := by
  have e : ((w.alloc (.cells #[a, b] t)).drewN nd).heap[w.heap.size]? = some (.cells #[a, b] t (0, 0)) := Array.getElem?_push_size ..
  exact (h.block _ ((Array.getElem?_eq_some_iff.1 e).1)).trans e

theorem own26_at {w : World} {base : Nat} {v : Value} {l : List S26} (h : w.ownsRow base 26 2 v l.length (flat26 l)) (i : Int) (h0 : 0 ≤ i) (hi : i < l.length) :
    ∃ g cap, v = .slice (some ⟨g, 0, none⟩) l.length cap ∧ base ≤ g ∧ (w.cell? ⟨g, i.toNat * 2, none⟩ = some (.string (rd_T26 l i).f0) ∧ w.cell? ⟨g, i.toNat * 2 + 1, none⟩ = some (.int .i64 (rd_T26 l i).f1)) ∧ (w.frozen? ⟨g, i.toNat * 2, none⟩ = false ∧ w.frozen? ⟨g, i.toNat * 2 + 1, none⟩ = false) ∧
      ∀ (x : S26), ((w.setCell ⟨g, i.toNat * 2, none⟩ (.string x.f0)).setCell ⟨g, i.toNat * 2 + 1, none⟩ (.int .i64 x.f1)).ownsRow base 26 2 (.slice (some ⟨g, 0, none⟩) l.length cap) l.length (flat26 (l.set i.toNat x)) := by
  have hR : Kd.R k26 26 w base (fun _ => True) v l := R26_of_own h (fun _ _ => trivial)
  obtain ⟨g, cap, cur, rfl, hg, hh, hnc, hcm, hcs, ht⟩ : ∃ g cap cur, v = .slice (some ⟨g, 0, none⟩) l.length cap ∧ base ≤ g ∧ w.heap[g]? = some (.cells cur 26 (0, 0)) ∧ l.length ≤ cap ∧ cap ≤ maxLen ∧ cur.size = cap * 2 ∧ cur.toList.take (l.length * 2) = flat26 l := by
    rcases h.2 with ⟨_, hn⟩ | h
    · omega
    · exact h
  obtain ⟨ce, hcl, hM, hcc, hfr⟩ := Kd.R_elem hR z26 i h0 hi
  obtain rfl := k26_openM hM
  refine ⟨g, cap, rfl, hg, ⟨hcc 0 _ rfl, hcc 1 _ rfl⟩, ⟨hfr 0, hfr 1⟩, fun x => ?_⟩
  have hP := own_of_R26 (Kd.R_seg hR i h0 hi (seg := [.string x.f0, .int .i64 x.f1]) (j := 0) hcl hcc (show 0 + 2 ≤ 2 from by decide) (x' := x) (k26_mkM _ _ _ x) (fun _ hk => hk)).1
  rw [List.length_set] at hP
  exact hP

set_option maxHeartbeats 4000000 in
/-- marks.Set: a mark that is there. -/
theorem set_there (k : Nat) (A0 : Option Addr) (c0 : Nat) (l0 : List S26) (nm : ByteArray) (at_ i : Int) (w : World) (hr0 : Kd.C k26 w A0 l0.length l0) (hc0 : l0.length ≤ c0) (hm : opcode_MayMark.f k nm = some true) (ha : marks_at.f k l0 nm = some i) (hi : 0 ≤ i) (hil : i < l0.length) (hbig : l0.length < 5864062014805) :
    Calls Try.prog 11 #[.slice A0 l0.length c0, .agg #[.string nm, .int .i64 at_]] w fun e w' => ∃ v, e = .returned (.tuple #[v, .int .i64 0]) ∧ Kd.R k26 26 w' w.heap.size (fun _ => True) v (l0.set i.toNat ⟨nm, at_⟩) ∧ Below w.heap.size w w' := by
  have hu26 := Try.underlying26
  have HR0 := Aside0.mk hr0
  have HC0 := Aside0.mk hc0
  have hi' : decide (i ≥ 0) = true := decide_eq_true (by omega)
  clear hr0 hc0
  go_enter Try.func11, Try.ntmps11
  go_wp2_with (first | (go_at_call 15; refine (opcode_MayMark.calls k nm true _ hm).mono ?_; rintro e w1 ⟨rfl, ⟨nd, rfl⟩⟩) | (go_at_call 16; refine (marks_at.calls k A0 c0 l0 nm i _ (Kd.C_below HR0.out (pw_below_drewN (below_alloc (Below.refl _ _) _) _)) HC0.out ha).mono ?_; rintro e w2 ⟨rfl, hb2⟩; have HB2 := Aside0.mk (below_step (pw_below_drewN (below_alloc (Below.refl w.heap.size w) (.cells #[.string nm, .int .i64 at_] 26)) nd) hb2); have HX := Aside0.mk hb2; clear hb2))
  refine (clone_calls A0 c0 l0 _ (Kd.C_below HR0.out HB2.out) (by omega)).mono ?_
  rintro e w3 ⟨v, rfl, hown, hb3⟩
  obtain ⟨g, cap, rfl, hg, ⟨hc0, hc1⟩, ⟨hf0, hf1⟩, hset⟩ := own26_at hown i hi hil
  have HB3 := Aside0.mk hb3
  have HS := Aside0.mk (hset ⟨nm, at_⟩)
  have HG := Aside0.mk hg
  have hbox := box_cell w (.string nm) (.int .i64 at_) 26 nd w3 (below_then HX.out HX.out.size hb3)
  have hbx0 : w3.cell? ⟨w.heap.size, 0, none⟩ = some (.string nm) := (Ins.cell_of hbox).trans rfl
  have hbx1 : w3.cell? ⟨w.heap.size, 1, none⟩ = some (.int .i64 at_) := (Ins.cell_of hbox).trans rfl
  clear hown hb3 hset hg hbox
  go_wp2
  go_ret2
  have hw : Below w.heap.size w w2 := HB2.out
  refine ⟨_, rfl, R26_of_own ?_ (fun _ _ => trivial), ?_⟩
  · rw [List.length_set]; exact own_weaken HS.out hw.size
  · exact below_set (below_set (below_step hw HB3.out) (Nat.le_trans hw.size HG.out)) (Nat.le_trans hw.size HG.out)

theorem ins_fin {w W w5 : World} {v v' : Value} (l0 : List S26) (i : Nat) (nm : ByteArray) (at_ : Int) (hi : i ≤ l0.length) (HB : Below w.heap.size w W) (ho : W.ownsRow w.heap.size 26 2 v l0.length (flat26 l0))
    (h5 : w5.ownsRow w.heap.size 26 2 v' (l0.length + 1) ((flat26 l0).take (i * 2) ++ [.string nm, .int .i64 at_] ++ (flat26 l0).drop (i * 2))) (hg5 : W.grownBy w5 v.ownBlock) :
    Kd.R k26 26 w5 w.heap.size (fun _ => True) v' (l0.take i ++ [⟨nm, at_⟩] ++ l0.drop i) ∧ Below w.heap.size w w5 := by
  refine ⟨R26_of_own ?_ (fun _ _ => trivial), HB.grown hg5 HB.size (fun k e => own_base ho k e)⟩
  have e : (l0.take i ++ [⟨nm, at_⟩] ++ l0.drop i : List S26).length = l0.length + 1 := by simp; omega
  rw [e, flat26_append, flat26_append, flat26_take, flat26_drop]
  exact h5

set_option maxHeartbeats 4000000 in
/-- marks.Set: a mark more. -/
theorem set_new (k : Nat) (A0 : Option Addr) (c0 : Nat) (l0 : List S26) (nm : ByteArray) (at_ i : Int) (w : World) (hr0 : Kd.C k26 w A0 l0.length l0) (hc0 : l0.length ≤ c0) (hm : opcode_MayMark.f k nm = some true) (ha : marks_at.f k l0 nm = some i) (hi : i < 0) (hl : l0.length < 16) :
    Calls Try.prog 11 #[.slice A0 l0.length c0, .agg #[.string nm, .int .i64 at_]] w fun e w' => ∃ v, e = .returned (.tuple #[v, .int .i64 0]) ∧ Kd.R k26 26 w' w.heap.size (fun _ => True) v (l0.take (setAt nm l0) ++ [⟨nm, at_⟩] ++ l0.drop (setAt nm l0)) ∧ Below w.heap.size w w' := by
  have hu26 := Try.underlying26
  have HR0 := Aside0.mk hr0
  have HC0 := Aside0.mk hc0
  have hi' : decide (i ≥ 0) = false := decide_eq_false (by omega)
  have hl' : decide ((l0.length : Int) ≥ 16) = false := decide_eq_false (by omega)
  have hix := idxGt_le nm l0 0 (by omega)
  have hsa : setAt nm l0 ≤ l0.length := by unfold setAt; split <;> omega
  clear hr0 hc0
  go_enter Try.func11, Try.ntmps11
  go_wp2_with (first | (go_at_call 15; refine (opcode_MayMark.calls k nm true _ hm).mono ?_; rintro e w1 ⟨rfl, ⟨nd, rfl⟩⟩) | (go_at_call 16; refine (marks_at.calls k A0 c0 l0 nm i _ (Kd.C_below HR0.out (pw_below_drewN (below_alloc (Below.refl _ _) _) _)) HC0.out ha).mono ?_; rintro e w2 ⟨rfl, hb2⟩; have HB2 := Aside0.mk (below_step (pw_below_drewN (below_alloc (Below.refl w.heap.size w) (.cells #[.string nm, .int .i64 at_] 26)) nd) hb2); have HX := Aside0.mk hb2; clear hb2))
  have hbox := box_cell w (.string nm) (.int .i64 at_) 26 nd w2 HX.out
  have hbx0 : w2.cell? ⟨w.heap.size, 0, none⟩ = some (.string nm) := (Ins.cell_of hbox).trans rfl
  refine (index_calls A0 c0 l0 nm w.heap.size _ (Kd.C_below HR0.out HB2.out) hbx0).mono ?_
  rintro e w3 ⟨rfl, hb3⟩
  have hbx3 := (hb3.block _ (Array.getElem?_eq_some_iff.1 hbox).1).trans hbox
  have HB3 := Aside0.mk (below_step HB2.out hb3)
  clear hb3 hbox hbx0
  obtain ⟨j, hj⟩ : ∃ j, j = idxGt nm l0 0 := ⟨_, rfl⟩
  rw [← hj] at hix ⊢
  by_cases hj0 : j < 0
  · have hsj : l0.length = setAt nm l0 := by unfold setAt; rw [← hj, if_pos hj0]
    have HSJ := Aside0.mk hsj
    clear hsj hj
    go_wp2
    have hbx0 : w3.cell? ⟨w.heap.size, 0, none⟩ = some (.string nm) := (Ins.cell_of hbx3).trans rfl
    have hbx1 : w3.cell? ⟨w.heap.size, 1, none⟩ = some (.int .i64 at_) := (Ins.cell_of hbx3).trans rfl
    have hlw : w.heap.size < w3.heap.size := World.block_lt_of_cell? w3 _ hbx0
    go_region_with (first
      | (go_at_call 17; refine (clone_calls A0 c0 l0 _ (Kd.C_below HR0.out (by repeat (first | exact HB3.out | apply below_alloc | apply pw_below_drewN | apply below_drew1))) (by omega)).mono ?_; rintro e w4 ⟨v, rfl, hown, hb4⟩; have HO := Aside0.mk hown; have HB4 := Aside0.mk hb4; clear hown; (try have hby0 := (hb4.cell (p := ⟨w.heap.size, 0, none⟩) hlw).trans hbx0); (try have hby1 := (hb4.cell (p := ⟨w.heap.size, 1, none⟩) hlw).trans hbx1); clear hb4)
      | (go_at_call 20; have HOW := Aside0.mk (own_weaken (base' := w.heap.size) (pw_own_below HO.out (below_alloc (Below.refl _ _) (.cells #[.string nm, .int .i64 at_] 26))) (Nat.le_trans HB3.out.size (by simp))); have HBW := Aside0.mk (below_alloc (below_step (below_drew1 HB3.out) HB4.out) (.cells #[.string nm, .int .i64 at_] 26)); refine (Ins.insert_own w.heap.size v l0.length l0.length w4.heap.size (flat26 l0) (.string nm) (.int .i64 at_) _ HOW.out HBW.out.size (Nat.le_refl _) (Array.getElem?_push_size ..) (fun e => by have := own_lt HO.out _ e; omega) (by omega) (flat26_one l0) rfl rfl).mono ?_; rintro e w5 ⟨v5, rfl, h5, hg5⟩; have HF := Aside0.mk (ins_fin l0 l0.length nm at_ (Nat.le_refl _) HBW.out HOW.out h5 hg5); clear h5 hg5 HOW HBW)
      | (go_at_call 20; have HBW := Aside0.mk (below_step (show Below w.heap.size w (w3.alloc (.cells #[.string nm, .int .i64 at_] 26)).drew from below_drew1 (below_alloc HB3.out (.cells #[.string nm, .int .i64 at_] 26))) HB4.out); have HOW := Aside0.mk (own_weaken (base' := w.heap.size) HO.out (Nat.le_trans HB3.out.size (by simp))); refine (Ins.insert_own w.heap.size v l0.length l0.length w3.heap.size (flat26 l0) (.string nm) (.int .i64 at_) _ HOW.out HBW.out.size (Nat.le_refl _) ((HB4.out.block _ (by simp)).trans (Array.getElem?_push_size ..)) (fun e => by have := own_base HO.out _ e; simp at this; omega) (by omega) (flat26_one l0) rfl rfl).mono ?_; rintro e w5 ⟨v5, rfl, h5, hg5⟩; have HF := Aside0.mk (ins_fin l0 l0.length nm at_ (Nat.le_refl _) HBW.out HOW.out h5 hg5); clear h5 hg5 HOW HBW))
    all_goals go_wp2
    all_goals go_ret2
    all_goals exact ⟨_, rfl, by rw [← HSJ.out]; exact HF.out.1, HF.out.2⟩
  · obtain ⟨jn, rfl⟩ := Int.eq_ofNat_of_zero_le (show 0 ≤ j by omega)
    have hsj : jn = setAt nm l0 := by unfold setAt; rw [← hj, if_neg hj0]; rfl
    have HSJ := Aside0.mk hsj
    have hjl : jn ≤ l0.length := by omega
    clear hsj hj hix
    go_wp2
    have hbx0 : w3.cell? ⟨w.heap.size, 0, none⟩ = some (.string nm) := (Ins.cell_of hbx3).trans rfl
    have hbx1 : w3.cell? ⟨w.heap.size, 1, none⟩ = some (.int .i64 at_) := (Ins.cell_of hbx3).trans rfl
    have hlw : w.heap.size < w3.heap.size := World.block_lt_of_cell? w3 _ hbx0
    go_region_with (first
      | (go_at_call 17; refine (clone_calls A0 c0 l0 _ (Kd.C_below HR0.out (by repeat (first | exact HB3.out | apply below_alloc | apply pw_below_drewN | apply below_drew1))) (by omega)).mono ?_; rintro e w4 ⟨v, rfl, hown, hb4⟩; have HO := Aside0.mk hown; have HB4 := Aside0.mk hb4; clear hown; (try have hby0 := (hb4.cell (p := ⟨w.heap.size, 0, none⟩) hlw).trans hbx0); (try have hby1 := (hb4.cell (p := ⟨w.heap.size, 1, none⟩) hlw).trans hbx1); clear hb4)
      | (go_at_call 20; have HOW := Aside0.mk (own_weaken (base' := w.heap.size) (pw_own_below HO.out (below_alloc (Below.refl _ _) (.cells #[.string nm, .int .i64 at_] 26))) (Nat.le_trans HB3.out.size (by simp))); have HBW := Aside0.mk (below_alloc (below_step (below_drew1 HB3.out) HB4.out) (.cells #[.string nm, .int .i64 at_] 26)); refine (Ins.insert_own w.heap.size v l0.length jn w4.heap.size (flat26 l0) (.string nm) (.int .i64 at_) _ HOW.out HBW.out.size hjl (Array.getElem?_push_size ..) (fun e => by have := own_lt HO.out _ e; omega) (by omega) (flat26_one l0) rfl rfl).mono ?_; rintro e w5 ⟨v5, rfl, h5, hg5⟩; have HF := Aside0.mk (ins_fin l0 jn nm at_ hjl HBW.out HOW.out h5 hg5); clear h5 hg5 HOW HBW)
      | (go_at_call 20; have HBW := Aside0.mk (below_step (show Below w.heap.size w (w3.alloc (.cells #[.string nm, .int .i64 at_] 26)).drew from below_drew1 (below_alloc HB3.out (.cells #[.string nm, .int .i64 at_] 26))) HB4.out); have HOW := Aside0.mk (own_weaken (base' := w.heap.size) HO.out (Nat.le_trans HB3.out.size (by simp))); refine (Ins.insert_own w.heap.size v l0.length jn w3.heap.size (flat26 l0) (.string nm) (.int .i64 at_) _ HOW.out HBW.out.size hjl ((HB4.out.block _ (by simp)).trans (Array.getElem?_push_size ..)) (fun e => by have := own_base HO.out _ e; simp at this; omega) (by omega) (flat26_one l0) rfl rfl).mono ?_; rintro e w5 ⟨v5, rfl, h5, hg5⟩; have HF := Aside0.mk (ins_fin l0 jn nm at_ hjl HBW.out HOW.out h5 hg5); clear h5 hg5 HOW HBW))
    all_goals go_wp2
    all_goals go_ret2
    all_goals exact ⟨_, rfl, by rw [← HSJ.out]; exact HF.out.1, HF.out.2⟩

/-- marks.Set: all its roads. -/
theorem marks_Set.calls (k : Nat) (A0 : Option Addr) (c0 : Nat) (l0 : List (S26)) (a1_0 : ByteArray) (a1_1 : Int) (r1 : List (S26)) (r2 : Int) (w : World) (hr0 : Kd.C k26 w A0 l0.length l0) (hc0 : l0.length ≤ c0) (h : marks_Set.f k l0 a1_0 a1_1 = some (r1, r2)) :
    Calls Try.prog 11 #[.slice A0 l0.length c0, .agg #[.string a1_0, .int .i64 a1_1]] w fun e w' => ∃ v0_ : Value, e = .returned (.tuple #[v0_, .int .i64 r2]) ∧ Kd.R k26 26 w' w.heap.size (fun _ => True) v0_ r1 ∧ Below w.heap.size w w' := by
  unfold marks_Set.f at h
  obtain ⟨b, hb, h⟩ := Option.bind_eq_some_iff.mp h
  cases b with
  | false =>
    simp only [Bool.false_eq_true, if_false, Option.some.injEq, Prod.mk.injEq] at h
    obtain ⟨rfl, rfl⟩ := h
    refine (set_no k A0 c0 l0 a1_0 a1_1 w hb).mono ?_
    rintro e w' ⟨rfl, hbl⟩
    exact ⟨_, rfl, Kd.R_nil _ _ _ _ _, hbl⟩
  | true =>
    rw [if_pos rfl] at h
    obtain ⟨i, hi, h⟩ := Option.bind_eq_some_iff.mp h
    by_cases hi0 : 0 ≤ i
    · rw [if_pos hi0] at h
      by_cases hil : i < (l0.length : Int)
      · rw [if_pos hil] at h
        by_cases hbig : l0.length < 5864062014805
        · rw [if_pos hbig] at h
          simp only [Option.some.injEq, Prod.mk.injEq] at h
          obtain ⟨rfl, rfl⟩ := h
          exact set_there k A0 c0 l0 a1_0 a1_1 i w hr0 hc0 hb hi hi0 hil hbig
        · rw [if_neg hbig] at h; cases h
      · rw [if_neg hil] at h; cases h
    · rw [if_neg hi0] at h
      by_cases hl : 16 ≤ (l0.length : Int)
      · rw [if_pos hl] at h
        simp only [Option.some.injEq, Prod.mk.injEq] at h
        obtain ⟨rfl, rfl⟩ := h
        refine (set_many k A0 c0 l0 a1_0 a1_1 i w hr0 hc0 hb hi (by omega) (by omega)).mono ?_
        rintro e w' ⟨rfl, hbl⟩
        exact ⟨_, rfl, Kd.R_nil _ _ _ _ _, hbl⟩
      · rw [if_neg hl] at h
        simp only [Option.some.injEq, Prod.mk.injEq] at h
        obtain ⟨rfl, rfl⟩ := h
        exact set_new k A0 c0 l0 a1_0 a1_1 i w hr0 hc0 hb hi (by omega) (by omega)
end Go.Proofs.Ythlhcclgngncbaa.QMn
