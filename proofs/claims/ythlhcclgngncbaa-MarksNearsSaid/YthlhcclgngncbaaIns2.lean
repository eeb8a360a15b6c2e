/- slices.Insert over an owned row of structs of two cells: one contract for all its roads. -/
import Derived.Test.YthlhcclgngncbaaIns
namespace Go.Proofs.Ythlhcclgngncbaa.Ins
open Go.RowKit Go.Lib Go.Proofs.YthlhcclgngncbaaW.PrintWords Go.Proofs.YthlhcclgngncbaaW.PrintLast Go.Proofs.YthlhcclgngncbaaW.PrintMore
set_option linter.unusedVariables false
set_option linter.unusedSimpArgs false

theorem take3 {α : Type} (a b c : List α) (k : Nat) (h : k = a.length + b.length) : (a ++ b ++ c).take k = a ++ b := by
  subst h
  rw [← List.length_append, List.take_left']
  rfl

theorem put1_take (cur : Array Value) (c n i : Nat) (c0 c1 : Value) (hcur : cur.size = c * 2) (hi : i < n) (hroom : n + 1 ≤ c) :
    (put1 cur n i c0 c1).toList.take ((n + 1) * 2) = (cur.toList.take (n * 2)).take (i * 2) ++ [c0, c1] ++ (cur.toList.take (n * 2)).drop (i * 2) := by
  unfold put1
  generalize hL : cur.toList = L
  have hl : L.length = c * 2 := by rw [← hL]; simpa using hcur
  simp only [List.toList_toArray]
  have e1 : (L.take ((i + 1) * 2)).length = (i + 1) * 2 := by simp; omega
  have e2 : ((L.take (n * 2)).drop (i * 2)).length = (n - i) * 2 := by simp; omega
  generalize hA : L.take ((i + 1) * 2) = A at e1
  generalize hB : (L.take (n * 2)).drop (i * 2) = B at e2
  generalize hC : L.drop ((i + 1) * 2 + B.length) = C
  have e3 : (A ++ B ++ C).take (i * 2) = (L.take (n * 2)).take (i * 2) := by
    rw [List.append_assoc, List.take_append_of_le_length (by omega), ← hA, List.take_take, List.take_take]
    congr 1
    omega
  have e4 : (A ++ B ++ C).drop (i * 2 + 2) = B ++ C := by
    rw [List.append_assoc, List.drop_append, List.drop_eq_nil_of_le (by omega), e1, show i * 2 + 2 - (i + 1) * 2 = 0 by omega]
    simp
  rw [e3, e4, ← List.append_assoc]
  refine take3 _ _ _ _ ?_
  simp only [List.length_append, List.length_take, List.length_cons, List.length_nil, e2, hl]
  omega

theorem rowG2_take (cs : List Value) (i n G : Nat) (c0 c1 : Value) (hcs : cs.length = n * 2) (hi : i < n) (hG : n + 1 ≤ G) :
    (rowG2 cs i n G c0 c1).take ((n + 1) * 2) = cs.take (i * 2) ++ [c0, c1] ++ cs.drop (i * 2) := by
  have e0 : (cs.take (i * 2)).length = i * 2 := by simp; omega
  have e1 : (rowG1 cs i n G c0 c1).take ((i + 1) * 2) = cs.take (i * 2) ++ [c0, c1] := by
    unfold rowG1 rowG
    have : (cs.take (i * 2) ++ (Builtin.zeroCells (Value.agg #[(.string ⟨#[]⟩), (.int .i64 0)]).cells (n + 1 - i)).toList ++ (Builtin.zeroCells (Value.agg #[(.string ⟨#[]⟩), (.int .i64 0)]).cells (G - (n + 1))).toList).take (i * 2) = cs.take (i * 2) := by
      rw [List.append_assoc, List.take_append_of_le_length (by omega), List.take_of_length_le (by omega)]
    rw [this]
    refine take3 _ _ _ _ ?_
    simp only [e0, List.length_cons, List.length_nil]; omega
  unfold rowG2
  rw [e1]
  refine take3 _ _ _ _ ?_
  simp only [List.length_append, e0, List.length_cons, List.length_nil, List.length_drop, hcs]
  omega

set_option maxHeartbeats 4000000 in
set_option maxRecDepth 100000 in
theorem insert_end (base : Nat) (v : Value) (n vb : Nat) (xs : List Value) (c0 c1 : Value) (w : World) (ho : w.ownsRow base 26 2 v n xs) (hbase : base ≤ w.heap.size)
    (hv : w.heap[vb]? = some (.cells #[c0, c1] 26 (0, 0))) (hbig : (n + 1) * 24 ≤ 140737488355328) (h10 : c0.oneCell' = true) (h11 : c1.oneCell' = true) :
    Calls Try.prog 20 #[v, .int .i64 n, .slice (some ⟨vb, 0, none⟩) 1 1] w fun e w' =>
      ∃ v', e = .returned v' ∧ w'.ownsRow base 26 2 v' (n + 1) (xs ++ [c0, c1]) ∧ w.grownBy w' v.ownBlock := by
  obtain ⟨i0, hi0, hz0, hzs, hzb⟩ := info_parts infoAll26
  have hml : n + 1 ≤ maxLen := by unfold maxLen; omega
  have hnews : ∀ j u, [c0, c1][j]? = some u → w.cell? ((⟨vb, 0, none⟩ : Addr).add j) = some u := fun j u hj => by
    rw [Addr.add_lit, cell_of hv, Nat.zero_add]; simpa using hj
  have hone : ∀ u ∈ [c0, c1], u.oneCell' = true := by intro u hu; simp at hu; rcases hu with rfl | rfl <;> assumption
  have ho' := ho
  obtain ⟨hl, hr⟩ := ho'
  rcases hr with ⟨rfl, hn⟩ | ⟨g, cap, cur, rfl, hg, hh, hnc, hcm, hcs, ht⟩
  · subst hn
    have HO := Aside0.mk ho
    clear ho hl
    go_enter Try.func20, Try.ntmps20
    go_wp2_with (at_builtin; refine wpList_append_own _ rfl _ _ 22 rfl base 26 i0 _ 2 24 Try.underlying22 hi0 hz0 hzs hzb rfl (by decide) _ 0 xs rfl HO.out ⟨vb, 0, none⟩ 1 1 [c0, c1] rfl rfl hnews hone hml hbig hbase ?_; intro v' w1 hown' hgrow _; clear hnews)
    go_ret
    exact ⟨_, rfl, hown', hgrow⟩
  · have HO := Aside0.mk ho
    clear ho hl hcs ht hh
    unfold maxLen at hcm
    go_enter Try.func20, Try.ntmps20
    go_wp2_with (at_builtin; refine wpList_append_own _ rfl _ _ 22 rfl base 26 i0 _ 2 24 Try.underlying22 hi0 hz0 hzs hzb rfl (by decide) _ n xs rfl HO.out ⟨vb, 0, none⟩ 1 1 [c0, c1] rfl rfl hnews hone hml hbig hbase ?_; intro v' w1 hown' hgrow _; clear hnews)
    all_goals go_ret
    all_goals exact ⟨_, rfl, hown', hgrow⟩

/-- slices.Insert(s, i, x) where s is a row of the call's own and x lies in another block. -/
theorem insert_own (base : Nat) (v : Value) (n i vb : Nat) (xs : List Value) (c0 c1 : Value) (w : World) (ho : w.ownsRow base 26 2 v n xs) (hbase : base ≤ w.heap.size) (hin : i ≤ n)
    (hv : w.heap[vb]? = some (.cells #[c0, c1] 26 (0, 0))) (hvb : v.ownBlock ≠ some vb) (hbig : (n + 1) * 24 ≤ 140737488355328) (h1 : ∀ u ∈ xs, u.oneCell' = true) (h10 : c0.oneCell' = true) (h11 : c1.oneCell' = true) :
    Calls Try.prog 20 #[v, .int .i64 i, .slice (some ⟨vb, 0, none⟩) 1 1] w fun e w' =>
      ∃ v', e = .returned v' ∧ w'.ownsRow base 26 2 v' (n + 1) (xs.take (i * 2) ++ [c0, c1] ++ xs.drop (i * 2)) ∧ w.grownBy w' v.ownBlock := by
  by_cases he : i = n
  · subst he
    refine (insert_end base v i vb xs c0 c1 w ho hbase hv hbig h10 h11).mono ?_
    rintro e w' ⟨v', rfl, h2, h3⟩
    refine ⟨v', rfl, ?_, h3⟩
    rw [List.take_of_length_le (by rw [ho.1]; omega), List.drop_eq_nil_of_le (by rw [ho.1]; omega), List.append_nil]
    exact h2
  · obtain ⟨hl, hr⟩ := ho
    rcases hr with ⟨rfl, hn⟩ | ⟨g, cap, cur, rfl, hg, hh, hnc, hcm, hcs, ht⟩
    · omega
    · have hvg : vb ≠ g := by rintro rfl; exact hvb rfl
      subst ht
      by_cases hroom : n + 1 ≤ cap
      · refine (insert_shift g cap n i vb cur c0 c1 w (by omega) hroom hcm hh hcs hv hvg h1 h10 h11).mono ?_
        rintro e w' ⟨rfl, rfl⟩
        refine ⟨_, rfl, ⟨?_, .inr ⟨g, cap, _, rfl, hg, setRow_heap w.drew g cur _ 26 (0, 0) hh, hroom, hcm, ?_, put1_take cur cap n i c0 c1 hcs (by omega) hroom⟩⟩, ?_⟩
        · simp; omega
        · have hcl : cur.toList.length = cap * 2 := by simpa using hcs
          unfold put1
          simp only [List.toList_toArray, List.size_toArray, List.length_append, List.length_take, List.length_drop, List.length_cons, List.length_nil, hcl]
          omega
        · exact ⟨rfl, rfl, rfl, by simp, fun k hk hne => setRow_other w.drew g k _ (fun e => hne (by subst e; rfl))⟩
      · refine (insert_grow g cap n i vb cur c0 c1 w (by omega) (by omega) hnc hbig hh hcs hv h1 h10 h11).mono ?_
        rintro e w' ⟨rfl, q, rfl⟩
        have hG : n + 1 ≤ grownCap w (n + 1) cap 26 := grownCap_ge w _ _ _
        have hGm : grownCap w (n + 1) cap 26 ≤ maxLen := grownCap_le_maxLen w (n + 1) cap 26 (by unfold maxLen; omega)
        have hcl : (cur.toList.take (n * 2)).length = n * 2 := hl
        refine ⟨_, rfl, ⟨?_, .inr ⟨w.heap.size, _, _, rfl, hbase, setRow_heap ((w.alloc _).drewN q) w.heap.size _ _ 26 (0, 0) (Array.getElem?_push_size ..), hG, hGm, ?_, ?_⟩⟩, ?_⟩
        · simp; omega
        · simp only [List.size_toArray, rowG2, rowG1, rowG, List.length_append, List.length_take, List.length_drop, List.length_cons, List.length_nil, zero_len]
          simp only [List.length_take] at hcl
          omega
        · simpa using rowG2_take (cur.toList.take (n * 2)) i n _ c0 c1 hcl (by omega) hG
        · refine ⟨rfl, rfl, rfl, by simp, fun k hk hne => ?_⟩
          rw [setRow_other _ _ _ _ (by omega)]
          exact Below.heap_alloc w _ k hk
end Go.Proofs.Ythlhcclgngncbaa.Ins
