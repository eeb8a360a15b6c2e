/- slices.Insert at a slice of structs of two cells that the call owns, one value more: in the print's own form of an owned row. -/
import Derived.Test.YthlhcclgngncbaaQMnx0
import Derived.Shelf.Spec.SlicesInsertGrow
import Derived.Deep.RegionLaw
import Derived.Laws.CopyRow
import Derived.Lib.Hide
namespace Go.Proofs.Ythlhcclgngncbaa.Ins
open Go.RowKit Go.Lib
set_option linter.unusedVariables false
set_option linter.unusedSimpArgs false
variable {P : Program}

/-- 'copy' between rows of elements of k cells: all is read before anything is written. -/
theorem run_copy_rowK (w : World) (dT sT ty elem : TypeId) (k : Nat) (g o dLen dCap : Nat) (a : Addr) (sLen sCap : Nat) (cur : Array Value) (t : TypeId) (cs : List Value)
    (hu : P.underlying dT = some (.slice elem)) (hs : (P.info? elem).map (·.size) = some k)
    (hg : w.heap[g]? = some (.cells cur t (0, 0))) (hn : cs.length = Nat.min sLen dLen * k)
    (hsrc : ∀ j v, cs[j]? = some v → w.cell? (a.add j) = some v) (hfit : o + cs.length ≤ cur.size) (h1 : ∀ v ∈ cs, v.oneCell' = true) :
    (Builtin.copy_ #[dT, sT] ty #[.slice (some ⟨g, o, none⟩) dLen dCap, .slice (some a) sLen sCap]).run P w =
      .ok (goInt (Nat.min sLen dLen)) (w.setRow g (cur.toList.take o ++ cs ++ cur.toList.drop (o + cs.length)).toArray) := by
  have hl := run_loadCells_list (P := P) w a cs hsrc
  have hst := run_storeCells_at P g o t cs 0 cur w hg (by simpa using hfit) h1
  cases hq : P.info? elem with
  | none => simp [hq] at hs
  | some i =>
    have hi : i.size = k := by simpa [hq] using hs
    simp [Builtin.copy_, run_underlying hu, Builtin.lenOf, Builtin.firstCells, sizeOf, typeInfo, hq, hi, ← hn, hl, hst]


theorem shape_of {w : World} {g : Nat} {cur : Array Value} {t : TypeId} (h : w.heap[g]? = some (.cells cur t (0, 0))) : w.shape? g = some (t, cur.size) := by
  simp [World.shape?, h]
theorem frozen_of {w : World} {g o : Nat} {cur : Array Value} {t : TypeId} (h : w.heap[g]? = some (.cells cur t (0, 0))) : w.frozen? ⟨g, o, none⟩ = false := by
  simp [World.frozen?, h]
theorem cell_of {w : World} {g o : Nat} {cur : Array Value} {t : TypeId} (h : w.heap[g]? = some (.cells cur t (0, 0))) : w.cell? ⟨g, o, none⟩ = cur[o]? := by
  simp [World.cell?, h]
theorem info26 : (Try.prog.info? 26).map (·.size) = some 2 := by kernel_rfl
theorem size26 (w : World) : (Go.sizeOf 26).run Try.prog w = .ok 2 w := by kernel_rfl

/-- The row behind an insertion in place. -/
def put1 (cur : Array Value) (n i : Nat) (c0 c1 : Value) : Array Value :=
  (((cur.toList.take ((i + 1) * 2) ++ (cur.toList.take (n * 2)).drop (i * 2) ++ cur.toList.drop ((i + 1) * 2 + ((cur.toList.take (n * 2)).drop (i * 2)).length)).toArray.toList.take (i * 2) ++ [c0, c1] ++
    (cur.toList.take ((i + 1) * 2) ++ (cur.toList.take (n * 2)).drop (i * 2) ++ cur.toList.drop ((i + 1) * 2 + ((cur.toList.take (n * 2)).drop (i * 2)).length)).toArray.toList.drop (i * 2 + 2))).toArray

set_option maxHeartbeats 4000000 in
set_option maxRecDepth 100000 in
theorem insert_shift (b c n i vb : Nat) (cur : Array Value) (c0 c1 : Value) (w : World) (hi : i < n) (hroom : n + 1 ≤ c) (hc : c ≤ maxLen)
    (hg : w.heap[b]? = some (.cells cur 26 (0, 0))) (hcur : cur.size = c * 2) (hv : w.heap[vb]? = some (.cells #[c0, c1] 26 (0, 0))) (hvb : vb ≠ b)
    (h1 : ∀ v ∈ cur.toList.take (n * 2), v.oneCell' = true) (h10 : c0.oneCell' = true) (h11 : c1.oneCell' = true) :
    Calls Try.prog 20 #[.slice (some ⟨b, 0, none⟩) n c, .int .i64 i, .slice (some ⟨vb, 0, none⟩) 1 1] w fun e w' =>
      e = .returned (.slice (some ⟨b, 0, none⟩) (n + 1) c) ∧ w' = w.drew.setRow b (put1 cur n i c0 c1) := by
  unfold maxLen at hc
  have hz2 : ¬ ((i : Int) = (n : Int)) := by omega
  have hov : ∀ lb cb, (callFunc 24 #[.slice (some ⟨vb, 0, none⟩) 1 1, .slice (some ⟨b, (i + 1) * 2, none⟩) lb cb]).run Try.prog w = .ok (.value (.bool false)) w := fun lb cb => by
    rw [run_callFunc_extern Try.func24 (by kernel_rfl) (by kernel_rfl) (by kernel_rfl) (e := Extern.SlicesOverlaps.overlaps #[22, 22] #[4]) (by kernel_rfl),
      Lib.run_overlaps_apart w 22 4 26 Try.underlying22 2 size26 ⟨vb, 0, none⟩ ⟨b, (i + 1) * 2, none⟩ 1 1 lb cb hvb 26 26 _ _ (shape_of hv) (shape_of hg) (by omega) (frozen_of hv) (frozen_of hv)]
    rfl
  have hdl : ((cur.toList.take (n * 2)).drop (i * 2)).length = (n - i) * 2 := by simp; omega
  have hcp1 : ∀ ty dc sc, (Builtin.copy_ #[22, 22] ty #[.slice (some ⟨b, (i + 1) * 2, none⟩) (n - i) dc, .slice (some ⟨b, i * 2, none⟩) (n + 1 - i) sc]).run Try.prog w.drew =
      .ok (goInt (Nat.min (n + 1 - i) (n - i))) (w.drew.setRow b (cur.toList.take ((i + 1) * 2) ++ (cur.toList.take (n * 2)).drop (i * 2) ++ cur.toList.drop ((i + 1) * 2 + ((cur.toList.take (n * 2)).drop (i * 2)).length)).toArray) := fun ty dc sc =>
    run_copy_rowK w.drew 22 22 ty 26 2 b ((i + 1) * 2) (n - i) dc ⟨b, i * 2, none⟩ (n + 1 - i) sc cur 26 _ Try.underlying22 info26 hg (by rw [hdl]; congr 1; simp only [Nat.min_def]; split <;> omega)
      (fun j v hj => by
        rw [Addr.add_lit, cell_of (w := w.drew) hg]
        rw [List.getElem?_drop, List.getElem?_take] at hj
        split at hj
        · simpa using hj
        · cases hj)
      (by rw [hdl]; omega) (fun v hv => h1 v (List.mem_of_mem_drop hv))
  obtain ⟨cur1, hcur1⟩ : ∃ cur1 : Array Value, cur1 = (cur.toList.take ((i + 1) * 2) ++ (cur.toList.take (n * 2)).drop (i * 2) ++ cur.toList.drop ((i + 1) * 2 + ((cur.toList.take (n * 2)).drop (i * 2)).length)).toArray := ⟨_, rfl⟩
  have hs1 : cur1.size = c * 2 := by rw [hcur1]; simp; omega
  rw [← hcur1] at hcp1
  obtain ⟨W1, hW1⟩ : ∃ W1, W1 = w.drew.setRow b cur1 := ⟨_, rfl⟩
  have hg1 : W1.heap[b]? = some (.cells cur1 26 (0, 0)) := by rw [hW1]; exact setRow_heap w.drew b cur cur1 26 (0, 0) hg
  have hv1 : W1.heap[vb]? = some (.cells #[c0, c1] 26 (0, 0)) := by rw [hW1, setRow_other _ _ _ _ hvb]; exact hv
  have hcp2 : ∀ ty dc, (Builtin.copy_ #[22, 22] ty #[.slice (some ⟨b, i * 2, none⟩) (n + 1 - i) dc, .slice (some ⟨vb, 0, none⟩) 1 1]).run Try.prog W1 =
      .ok (goInt (Nat.min 1 (n + 1 - i))) (W1.setRow b (cur1.toList.take (i * 2) ++ [c0, c1] ++ cur1.toList.drop (i * 2 + [c0, c1].length)).toArray) := fun ty dc =>
    run_copy_rowK W1 22 22 ty 26 2 b (i * 2) (n + 1 - i) dc ⟨vb, 0, none⟩ 1 1 cur1 26 [c0, c1] Try.underlying22 info26 hg1 (by simp only [Nat.min_def]; split <;> simp; omega)
      (fun j v hj => by
        rw [Addr.add_lit, cell_of hv1, Nat.zero_add]
        simpa using hj)
      (by simp; omega) (by intro v hv; simp at hv; rcases hv with rfl | rfl <;> assumption)
  have hfin : W1.setRow b (cur1.toList.take (i * 2) ++ [c0, c1] ++ cur1.toList.drop (i * 2 + [c0, c1].length)).toArray = w.drew.setRow b (put1 cur n i c0 c1) := by
    rw [hW1, setRow_setRow]; unfold put1; rw [← hcur1]; rfl
  rw [hfin] at hcp2
  rw [← hW1] at hcp1
  have HX := Lib.hid hW1
  have HY := Lib.hid hcur1
  have HZ := Lib.hid hfin
  clear hW1 hcur1 hfin hcur hs1 hg hv hg1 hv1 h1 h10 h11 hdl
  have hw1 : IntKind.i64.wrap ((i : Int) + 1) = (i : Int) + 1 := by rw [IntKind.wrap_i64]; omega
  have hb1 : (0 : Int) ≤ (i : Int) + 1 := by omega
  have hin : i ≤ n := by omega
  have htn : ((i : Int) + 1).toNat = i + 1 := by omega
  have hb2 : ¬ (c = i + 1) := by omega
  have hb3 : (i : Int) ≤ (n : Int) + 1 := by omega
  have hb4 : ¬ (c = i) := by omega
  go_enter Try.func20, Try.ntmps20
  go_wp2_with (simp only [hov])
  go_region_law (refine step_copy_runI rfl _ _ 22 22 rfl _ _ (by simp [Act.eval, Act.put]) (by simp [Act.eval, Act.put]) (hcp1 _ _ _) ?_)
  go_wp2_with (at_builtin; refine wpList_copy_runI _ rfl _ _ 22 22 rfl _ _ rfl rfl (hcp2 _ _) ?_)
  go_ret
  exact ⟨rfl, rfl⟩


theorem infoAll26 : (Try.prog.info? 26).map (fun i => (i.zero, i.size, i.bytes)) = some (some (.agg #[(.string ⟨#[]⟩), (.int .i64 0)]), 2, 24) := by kernel_rfl

/-- The new row behind an insertion that grows. -/
def rowG (cs : List Value) (i n G : Nat) : List Value := cs.take (i * 2) ++ (Builtin.zeroCells (Value.agg #[(.string ⟨#[]⟩), (.int .i64 0)]).cells (n + 1 - i)).toList ++ (Builtin.zeroCells (Value.agg #[(.string ⟨#[]⟩), (.int .i64 0)]).cells (G - (n + 1))).toList
def rowG1 (cs : List Value) (i n G : Nat) (c0 c1 : Value) : List Value := (rowG cs i n G).take (i * 2) ++ [c0, c1] ++ (rowG cs i n G).drop (i * 2 + 2)
def rowG2 (cs : List Value) (i n G : Nat) (c0 c1 : Value) : List Value := (rowG1 cs i n G c0 c1).take ((i + 1) * 2) ++ cs.drop (i * 2) ++ (rowG1 cs i n G c0 c1).drop ((i + 1) * 2 + (cs.drop (i * 2)).length)

theorem zero_len (k : Nat) : (Builtin.zeroCells (Value.agg #[(.string ⟨#[]⟩), (.int .i64 0)]).cells k).toList.length = k * 2 := by
  simp [Builtin.zeroCells, Value.cells]

set_option maxHeartbeats 4000000 in
set_option maxRecDepth 100000 in
theorem insert_grow (b c n i vb : Nat) (cur : Array Value) (c0 c1 : Value) (w : World) (hi : i < n) (hroom : c < n + 1) (hnc : n ≤ c) (hbig : (n + 1) * 24 ≤ 140737488355328)
    (hg : w.heap[b]? = some (.cells cur 26 (0, 0))) (hcur : cur.size = c * 2) (hv : w.heap[vb]? = some (.cells #[c0, c1] 26 (0, 0)))
    (h1 : ∀ v ∈ cur.toList.take (n * 2), v.oneCell' = true) (h10 : c0.oneCell' = true) (h11 : c1.oneCell' = true) :
    Calls Try.prog 20 #[.slice (some ⟨b, 0, none⟩) n c, .int .i64 i, .slice (some ⟨vb, 0, none⟩) 1 1] w fun e w' =>
      e = .returned (.slice (some ⟨w.heap.size, 0, none⟩) (n + 1) (grownCap w (n + 1) c 26)) ∧
      ∃ q, w' = ((w.alloc (.cells (rowG (cur.toList.take (n * 2)) i n (grownCap w (n + 1) c 26)).toArray 26)).drewN q).setRow w.heap.size (rowG2 (cur.toList.take (n * 2)) i n (grownCap w (n + 1) c 26) c0 c1).toArray := by
  obtain ⟨i0, hi0, hz0, hzs, hzb⟩ := info_parts infoAll26
  have hz2 : ¬ ((i : Int) = (n : Int)) := by omega
  have hz3 : (c : Int) < (n : Int) + 1 := by omega
  have hbw : b < w.heap.size := (Array.getElem?_eq_some_iff.1 hg).1
  have hvw : vb < w.heap.size := (Array.getElem?_eq_some_iff.1 hv).1
  obtain ⟨cs, hcs⟩ : ∃ cs, cs = cur.toList.take (n * 2) := ⟨_, rfl⟩
  rw [← hcs] at h1 ⊢
  have hcl : cs.length = n * 2 := by rw [hcs]; simp; omega
  have hcell : ∀ j v, cs[j]? = some v → w.cell? ⟨b, j, none⟩ = some v := fun j v hj => by
    rw [cell_of hg]
    rw [hcs, List.getElem?_take] at hj
    split at hj
    · simpa using hj
    · cases hj
  have hkk : (n : Int) + 1 - (i : Int) = ((n + 1 - i : Nat) : Int) := by omega
  have hik : i + (n + 1 - i) = n + 1 := by omega
  have hold : (Builtin.firstCells i0.size i (.slice (some ⟨b, 0, none⟩) i c)).run Try.prog w.drew = .ok (cs.take (i * 2)).toArray w.drew := by
    rw [hzs]
    exact run_firstCells_some w.drew 2 i ⟨b, 0, none⟩ i c (cs.take (i * 2)) (by rw [List.length_take]; omega) (fun j v hj => by
      rw [Addr.add_lit]
      rw [List.getElem?_take] at hj
      split at hj
      · rw [Nat.zero_add]; exact hcell j v hj
      · cases hj)
  have hrz : ∀ ty, (Builtin.append_ #[22, 3] ty #[.slice (some ⟨b, 0, none⟩) i c, .int .i64 ((n : Int) + 1 - (i : Int))]).run Try.prog w =
      .ok (.slice (some ⟨w.heap.size, 0, none⟩) (n + 1) (grownCap w (n + 1) c 26)) (w.drew.alloc (.cells (rowG cs i n (grownCap w (n + 1) c 26)).toArray 26)) := fun ty => by
    have h := Lib.run_append_grow_zeros w 22 3 ty 26 i0 _ .i64 .i64 Try.underlying22 Try.underlying3 hi0 hz0 (some ⟨b, 0, none⟩) i c (cs.take (i * 2)) hold (n + 1 - i) (by omega) (by omega) (by omega) (by omega) (by rw [hzb]; omega) (by rw [hzb, hik]; exact growslice_fits hroom hbig)
    rw [hik] at h
    rw [hkk, h]
    congr 3
    simp [rowG]
  obtain ⟨G, hG⟩ : ∃ G, G = grownCap w (n + 1) c 26 := ⟨_, rfl⟩
  have hGn : n + 1 ≤ G := by rw [hG]; exact grownCap_ge w _ _ _
  have hG63 : G ≤ 9223372036854775807 := by
    have := grownCap_le_maxLen w (n + 1) c 26 (by unfold maxLen; omega)
    rw [← hG] at this
    unfold maxLen at this
    omega
  rw [← hG] at hrz ⊢
  have hR0 : (rowG cs i n G).length = G * 2 := by simp only [rowG, List.length_append, zero_len, List.length_take]; omega
  have hR1 : (rowG1 cs i n G c0 c1).length = G * 2 := by simp only [rowG1, List.length_append, List.length_take, List.length_drop, List.length_cons, List.length_nil]; omega
  have hA : ∀ (W : World), W.heap = (w.alloc (.cells (rowG cs i n G).toArray 26)).heap → ∀ ty dc, (Builtin.copy_ #[22, 22] ty #[.slice (some ⟨w.heap.size, i * 2, none⟩) (n + 1 - i) dc, .slice (some ⟨vb, 0, none⟩) 1 1]).run Try.prog W =
      .ok (goInt (Nat.min 1 (n + 1 - i))) (W.setRow w.heap.size (rowG1 cs i n G c0 c1).toArray) := fun W hW ty dc => by
    have hh := run_copy_rowK W 22 22 ty 26 2 w.heap.size (i * 2) (n + 1 - i) dc ⟨vb, 0, none⟩ 1 1 (rowG cs i n G).toArray 26 [c0, c1] Try.underlying22 info26 (by rw [hW]; exact Array.getElem?_push_size ..)
      (by simp only [Nat.min_def]; split <;> simp; omega)
      (fun j v hj => by
        have hv' : W.heap[vb]? = some (.cells #[c0, c1] 26 (0, 0)) := by rw [hW]; exact (Below.heap_alloc _ _ _ hvw).trans hv
        rw [Addr.add_lit, cell_of hv', Nat.zero_add]
        simpa using hj)
      (by simp [hR0]; omega) (by intro v hv; simp at hv; rcases hv with rfl | rfl <;> assumption)
    rw [hh]
    rfl
  have hB : ∀ (W : World), W.heap = ((w.alloc (.cells (rowG cs i n G).toArray 26)).setRow w.heap.size (rowG1 cs i n G c0 c1).toArray).heap → ∀ ty dc sc, (Builtin.copy_ #[22, 22] ty #[.slice (some ⟨w.heap.size, (i + 1) * 2, none⟩) (n - i) dc, .slice (some ⟨b, i * 2, none⟩) (n - i) sc]).run Try.prog W =
      .ok (goInt (Nat.min (n - i) (n - i))) (W.setRow w.heap.size (rowG2 cs i n G c0 c1).toArray) := fun W hW ty dc sc => by
    have hh := run_copy_rowK W 22 22 ty 26 2 w.heap.size ((i + 1) * 2) (n - i) dc ⟨b, i * 2, none⟩ (n - i) sc (rowG1 cs i n G c0 c1).toArray 26 (cs.drop (i * 2)) Try.underlying22 info26
      (by rw [hW]; exact setRow_heap _ _ (rowG cs i n G).toArray _ 26 (0, 0) (Array.getElem?_push_size ..))
      (by rw [List.length_drop, hcl, show Nat.min (n - i) (n - i) = n - i from Nat.min_self _]; omega)
      (fun j v hj => by
        have hv' : W.heap[b]? = some (.cells cur 26 (0, 0)) := by rw [hW, setRow_other _ _ _ _ (by omega)]; exact (Below.heap_alloc _ _ _ hbw).trans hg
        rw [Addr.add_lit, cell_of hv']
        rw [List.getElem?_drop] at hj
        have := hcell _ v hj
        rwa [cell_of hg] at this)
      (by rw [List.length_drop, hcl]; simp [hR1]; omega) (fun v hv => h1 v (List.mem_of_mem_drop hv))
    rw [hh]
    rfl
  obtain ⟨R0, hR0'⟩ : ∃ R0, R0 = (rowG cs i n G).toArray := ⟨_, rfl⟩
  obtain ⟨R1, hR1'⟩ : ∃ R1, R1 = (rowG1 cs i n G c0 c1).toArray := ⟨_, rfl⟩
  obtain ⟨R2, hR2'⟩ : ∃ R2, R2 = (rowG2 cs i n G c0 c1).toArray := ⟨_, rfl⟩
  rw [← hR0'] at hrz hA hB ⊢
  rw [← hR1'] at hA hB
  rw [← hR2'] at hB ⊢
  clear hkk hik hold hG hR0 hR1 hR0' hR1' hR2' hcs hcl hg hv hcur hcell h1 h10 h11 hi0 hz0 hzs hzb
  have hw1 : IntKind.i64.wrap ((i : Int) + 1) = (i : Int) + 1 := by rw [IntKind.wrap_i64]; omega
  have hb1 : (0 : Int) ≤ (i : Int) + 1 := by omega
  have hin : i ≤ n := by omega
  have htn : ((i : Int) + 1).toNat = i + 1 := by omega
  have hb3 : (i : Int) ≤ (n : Int) := by omega
  have hGi : ¬ (G = i) := by omega
  have hGim : ¬ (G = i + 1) := by omega
  have hci : ¬ (c = i) := by omega
  go_enter Try.func20, Try.ntmps20
  go_wp2_with (first
    | (at_builtin; refine Lib.wpList_append_run _ rfl _ _ _ _ rfl _ _ rfl rfl _ _ (hrz _) ?_)
    | (refine wpList_copy_runI (o := ⟨some 45, _, _, _, _, _⟩) _ rfl _ _ 22 22 rfl _ _ rfl rfl (hA (w.alloc (.cells R0 26)).drew rfl _ _) ?_))
  go_region_law (refine step_copy_runI rfl _ _ 22 22 rfl (.slice (some ⟨w.heap.size, (i + 1) * 2, none⟩) (n - i) (G - (i + 1))) (.slice (some ⟨b, i * 2, none⟩) (n - i) (c - i)) (by simp [Act.eval, Act.put]) (by simp [Act.eval, Act.put]) (hB (((w.alloc (.cells R0 26)).drew.setRow w.heap.size R1).drew) rfl 3 (G - (i + 1)) (c - i)) ?_)
  go_wp2
  go_ret
  exact ⟨rfl, 2, setRow_setRow ((w.alloc (.cells R0 26)).drewN 2) w.heap.size R1 R2⟩

end Go.Proofs.Ythlhcclgngncbaa.Ins
