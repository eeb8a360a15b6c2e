/- The operations: numbers, texts, comparisons, conversions. -/
import Derived.Test.YtkgghgigjeihjaaGreatS6
namespace Go.Proofs.YtkgghgigjeihjaaGreat.Sim
set_option linter.unusedVariables false
set_option linter.unusedSimpArgs false
section
variable {P : Program} {Γ : Ctx} {s : CS} {H : AH}

def intA (op : BinOp) (k : IntKind) (a b : Int) : Option AV :=
  match op with
  | .add => some (.int k (k.wrap (a + b)))
  | .sub => some (.int k (k.wrap (a - b)))
  | .mul => some (.int k (k.wrap (a * b)))
  | .quo => if b = 0 then none else some (.int k (k.wrap (a.tdiv b)))
  | .rem => if b = 0 then none else some (.int k (a.tmod b))
  | .and => some (.int k (k.wrap (BitVec.ofInt k.bits a &&& BitVec.ofInt k.bits b).toNat))
  | .or => some (.int k (k.wrap (BitVec.ofInt k.bits a ||| BitVec.ofInt k.bits b).toNat))
  | .xor => some (.int k (k.wrap (BitVec.ofInt k.bits a ^^^ BitVec.ofInt k.bits b).toNat))
  | .andNot => some (.int k (k.wrap (BitVec.ofInt k.bits a &&& ~~~(BitVec.ofInt k.bits b)).toNat))
  | .eql => some (.bool (a == b))
  | .neq => some (.bool (a != b))
  | .lss => some (.bool (a < b))
  | .leq => some (.bool (a ≤ b))
  | .gtr => some (.bool (a > b))
  | .geq => some (.bool (a ≥ b))
  | _ => none
def shiftA (op : BinOp) (k : IntKind) (a b : Int) : Option AV :=
  if b < 0 then none else match op with
  | .shl => some (.int k (k.wrap (a * 2 ^ (min b.toNat k.bits))))
  | .shr => some (.int k (a.fdiv (2 ^ (min b.toNat k.bits))))
  | _ => none
def strA (op : BinOp) (x y : List UInt8) : Option AV :=
  match op with
  | .add => if x.length + y.length ≤ 9223372036854775807 then some (.str (x ++ y)) else none
  | .eql => some (.bool (x == y))
  | .neq => some (.bool !(x == y))
  | .lss => some (.bool (Op.bytesLess x y))
  | .leq => some (.bool (Op.bytesLess x y || x == y))
  | .gtr => some (.bool !(Op.bytesLess x y || x == y))
  | .geq => some (.bool !(Op.bytesLess x y))
  | _ => none
/-- Fields, one by one. -/
def eqFs (Γ : Ctx) (eq : Nat → AV → AV → Option Bool) (a b : List AV) : List Field → Option Bool
  | [] => some true
  | f :: fs => if f.name = "_" then none else match partA Γ f.type a f.offset, partA Γ f.type b f.offset with
    | some x, some y => match eq f.type x y with
      | some true => eqFs Γ eq a b fs
      | some false => some false
      | none => none
    | _, _ => none
/-- Of two values of one type whether they are the same; of structs field by field. -/
def eqD (Γ : Ctx) : Nat → Nat → AV → AV → Option Bool
  | 0, _, _, _ => none
  | d + 1, t, x, y => match Γ.ty t with
    | none => none
    | some i => match i.desc, x, y with
      | .bool, .bool a, .bool b => some (a == b)
      | .int _, .int k a, .int k' b => if k = k' then some (a == b) else none
      | .string, .str a, .str b => some (a == b)
      | .pointer _, .ptr none, .ptr none => some true
      | .pointer _, .ptr none, .ptr (some (_, _)) => some false
      | .pointer _, .ptr none, .cptr _ => some false
      | .pointer _, .ptr (some (_, _)), .ptr none => some false
      | .pointer _, .cptr _, .ptr none => some false
      | .map _ _, .map none, .map none => some true
      | .map _ _, .map none, .map (some _) => some false
      | .map _ _, .map (some _), .map none => some false
      | .func _ _ _, .nilFn, .nilFn => some true
      | .func _ _ _, .nilFn, .fn _ _ _ => some false
      | .func _ _ _, .fn _ _ _, .nilFn => some false
      | .struct fs, .agg a, .agg b => if Γ.eqok t = true then eqFs Γ (eqD Γ d) a b fs.toList else none
      | _, _, _ => none
def eqKindA : AV → Bool
  | .bool _ | .ptr _ | .cptr _ | .map _ | .fn _ _ _ | .nilFn | .agg _ => true
  | _ => false
def binA (Γ : Ctx) (op : BinOp) (T : Nat) (x y : AV) : Option AV :=
  match op, x, y with
  | .shl, .int k a, .int _ b => shiftA .shl k a b
  | .shr, .int k a, .int _ b => shiftA .shr k a b
  | _, .int k a, .int k' b => if k = k' then intA op k a b else none
  | _, .str a, .str b => strA op a b
  | .eql, _, _ => if eqKindA x = true then (eqD Γ 100 T x y).map .bool else none
  | .neq, _, _ => if eqKindA x = true then (eqD Γ 100 T x y).map fun b => .bool !b else none
  | _, _, _ => none

theorem int_ok {op : BinOp} {k : IntKind} {a b : Int} {v : AV} (h1 : op ≠ .shl) (h2 : op ≠ .shr) (h : intA op k a b = some v) (T : TypeId) (w : World) : ∃ c, (binOp op T (.int k a) (.int k b)).run P w = .ok c w ∧ VR s v c := by
  cases op <;> simp only [intA] at h <;> first
    | (cases h; done)
    | (exact absurd rfl h1)
    | (exact absurd rfl h2)
    | (cases h; refine ⟨.int k _, ?_, .pv _ _ (.int _ _)⟩; simp [binOp, Op.intArith]; done)
    | (cases h; refine ⟨.int k _, ?_, .pv _ _ (.int _ _)⟩; simp [binOp, Op.intBits]; done)
    | (cases h; refine ⟨.bool _, ?_, .pv _ _ (.bool _)⟩; simp [binOp, Op.intCmp]; done)
    | (split at h
       · cases h
       · rename_i hb; cases h; refine ⟨.int k _, ?_, .pv _ _ (.int _ _)⟩; simp [binOp, Op.intDiv, hb]; done)
theorem shift_ok {op : BinOp} {k k' : IntKind} {a b : Int} {v : AV} (h : shiftA op k a b = some v) (T : TypeId) (w : World) : ∃ c, (binOp op T (.int k a) (.int k' b)).run P w = .ok c w ∧ VR s v c := by
  unfold shiftA at h
  split at h
  · cases h
  · rename_i hb
    cases op <;> simp only at h <;> first
      | (cases h; done)
      | (cases h; refine ⟨.int k _, ?_, .pv _ _ (.int _ _)⟩; simp [binOp, Op.shift, hb]; done)
theorem str_ok {op : BinOp} {x y : List UInt8} {v : AV} (h : strA op x y = some v) {c d : Value} (hc : VR s (.str x) c) (hd : VR s (.str y) d) (T : TypeId) (w : World) : ∃ r, (binOp op T c d).run P w = .ok r w ∧ VR s v r := by
  obtain ⟨a, rfl, rfl⟩ := hc.of_str
  obtain ⟨b, rfl, rfl⟩ := hd.of_str
  cases op <;> simp only [strA] at h <;> first
    | (cases h; done)
    | (cases h; refine ⟨.bool _, ?_, .pv _ _ (.bool _)⟩; simp only [binOp, Op.stringOp, Lib.toList_data]; rfl)
    | (split at h
       · rename_i hl
         cases h
         have hl' : ¬ (((a.size + b.size : Nat) : Int) > IntKind.i64.max) := by
           have e1 : IntKind.i64.max = 9223372036854775807 := by decide
           have e2 : a.size = a.data.toList.length := rfl
           have e3 : b.size = b.data.toList.length := rfl
           rw [e1, e2, e3]; omega
         refine ⟨.string (a ++ b), ?_, .pv _ _ (.str _ _ (by simp))⟩
         simp only [binOp, Op.stringOp]
         rw [if_neg hl']; rfl
       · cases h)

theorem VR.of_nilFn {c : Value} (h : VR s .nilFn c) : c = .nilFunc := by
  cases h with
  | pv _ _ h => cases h; rfl
theorem VR.of_fn {g : Fn} {a b : List AV} {c : Value} (h : VR s (.fn g a b) c) : ∃ a' b', c = .func g a' b' ∧ LR s a a'.toList ∧ LR s b b'.toList := by
  cases h with
  | pv _ _ h => cases h with
    | fn0 => exact ⟨#[], #[], rfl, LR.nil, LR.nil⟩
  | fn _ _ _ a' b' ha hb h1 h2 => exact ⟨a', b', rfl, ⟨by simpa using ha, fun i x c e1 e2 => h1 i x c e1 (by simpa using e2)⟩, ⟨by simpa using hb, fun i x c e1 e2 => h2 i x c e1 (by simpa using e2)⟩⟩
theorem VR.of_ptr0 {c : Value} (h : VR s (.ptr none) c) : c = .pointer none := by
  cases h with
  | pv _ _ h => cases h; rfl

theorem eqFs_ok (hΓ : Γ.Ok P) (w : World) (eq : Nat → AV → AV → Option Bool) (d' : Nat) (heq : ∀ (t : Nat) (x y : AV) (c e : Value) (b : Bool), eq t x y = some b → VR s x c → VR s y e → (Op.equalIn d' t c e).run P w = .ok b w) {a b : List AV} {xs ys : Array Value} (ha : LR s a xs.toList) (hb : LR s b ys.toList) :
    ∀ (fs : List Field) (r : Bool), eqFs Γ eq a b fs = some r → (Op.eqFields d' xs ys fs).run P w = .ok r w
  | [], r, h => by cases h; rfl
  | f :: fs, r, h => by
    rw [eqFs] at h
    split at h
    · cases h
    · rename_i hn
      split at h
      · rename_i x y hx hy
        obtain ⟨c, c1, c2⟩ := part_ok (P := P) hΓ hx ha w
        obtain ⟨e, e1, e2⟩ := part_ok (P := P) hΓ hy hb w
        simp only [Op.eqFields]
        rw [if_pos hn]
        simp only [Sem.run_bind, c1, e1, Result.andThen_ok]
        split at h
        · rename_i ht
          rw [heq _ _ _ _ _ _ ht c2 e2]
          simp only [Result.andThen_ok, Bool.not_true, Bool.false_eq_true, if_false]
          exact eqFs_ok hΓ w eq d' heq ha hb fs r h
        · rename_i ht
          cases h
          rw [heq _ _ _ _ _ _ ht c2 e2]
          rfl
        · cases h
      · cases h

theorem eqD_ok (hΓ : Γ.Ok P) (w : World) : ∀ (d t : Nat) (x y : AV) (c e : Value) (b : Bool), eqD Γ d t x y = some b → VR s x c → VR s y e → ∀ d', d ≤ d' → (Op.equalIn d' t c e).run P w = .ok b w := by
  intro d
  induction d with
  | zero => intro t x y c e b h; cases h
  | succ d ih =>
    intro t x y c e b h hx hy d' hd
    obtain ⟨d', rfl⟩ : ∃ q, d' = q + 1 := ⟨d' - 1, by omega⟩
    rw [eqD] at h
    split at h
    · cases h
    · rename_i i hti
      have hT := hΓ.ty t i hti
      have hrun : ∀ D, i.desc = D → (underlying t).run P w = .ok D w := fun D hD => by rw [hT.run_und, hD]
      split at h
      · rename_i a b' hdsc
        cases h
        have := hx.of_bool; subst this
        have := hy.of_bool; subst this
        simp only [Op.equalIn, Sem.run_bind, hrun _ hdsc, Result.andThen_ok]; rfl
      · rename_i k0 k a k' b' hdsc
        have := hx.of_int; subst this
        have := hy.of_int; subst this
        split at h
        · rename_i hk
          cases h
          simp only [Op.equalIn, Sem.run_bind, hrun _ hdsc, Result.andThen_ok, if_pos hk]; rfl
        · cases h
      · rename_i a b' hdsc
        cases h
        obtain ⟨u, rfl, rfl⟩ := hx.of_str
        obtain ⟨v, rfl, rfl⟩ := hy.of_str
        simp only [Op.equalIn, Sem.run_bind, hrun _ hdsc, Result.andThen_ok]
        rw [beq_toListBytes, Lib.toList_data, Lib.toList_data]; rfl
      · rename_i q hdsc
        cases h
        have := hx.of_ptr0; subst this
        have := hy.of_ptr0; subst this
        simp only [Op.equalIn, Sem.run_bind, hrun _ hdsc, Result.andThen_ok]; rfl
      · rename_i q _ _ hdsc
        cases h
        have := hx.of_ptr0; subst this
        obtain ⟨loc, rfl, _⟩ := hy.of_ptr
        simp only [Op.equalIn, Sem.run_bind, hrun _ hdsc, Result.andThen_ok]; rfl
      · rename_i q _ hdsc
        cases h
        have := hx.of_ptr0; subst this
        obtain ⟨b1, o1, f1, rfl, _⟩ := hy.of_cptr
        simp only [Op.equalIn, Sem.run_bind, hrun _ hdsc, Result.andThen_ok]; rfl
      · rename_i q _ _ hdsc
        cases h
        have := hy.of_ptr0; subst this
        obtain ⟨loc, rfl, _⟩ := hx.of_ptr
        simp only [Op.equalIn, Sem.run_bind, hrun _ hdsc, Result.andThen_ok]; rfl
      · rename_i q _ hdsc
        cases h
        have := hy.of_ptr0; subst this
        obtain ⟨b1, o1, f1, rfl, _⟩ := hx.of_cptr
        simp only [Op.equalIn, Sem.run_bind, hrun _ hdsc, Result.andThen_ok]; rfl
      · rename_i q1 q2 hdsc
        cases h
        have := hx.of_map0; subst this
        have := hy.of_map0; subst this
        simp only [Op.equalIn, Sem.run_bind, hrun _ hdsc, Result.andThen_ok]; rfl
      · rename_i q1 q2 _ hdsc
        cases h
        have := hx.of_map0; subst this
        obtain ⟨loc, rfl, _⟩ := hy.of_map
        simp only [Op.equalIn, Sem.run_bind, hrun _ hdsc, Result.andThen_ok]; rfl
      · rename_i q1 q2 _ hdsc
        cases h
        have := hy.of_map0; subst this
        obtain ⟨loc, rfl, _⟩ := hx.of_map
        simp only [Op.equalIn, Sem.run_bind, hrun _ hdsc, Result.andThen_ok]; rfl
      · rename_i q1 q2 q3 hdsc
        cases h
        have := hx.of_nilFn; subst this
        have := hy.of_nilFn; subst this
        simp only [Op.equalIn, Sem.run_bind, hrun _ hdsc, Result.andThen_ok]; rfl
      · rename_i q1 q2 q3 _ _ _ hdsc
        cases h
        have := hx.of_nilFn; subst this
        obtain ⟨a', b', rfl, _⟩ := hy.of_fn
        simp only [Op.equalIn, Sem.run_bind, hrun _ hdsc, Result.andThen_ok]; rfl
      · rename_i q1 q2 q3 _ _ _ hdsc
        cases h
        have := hy.of_nilFn; subst this
        obtain ⟨a', b', rfl, _⟩ := hx.of_fn
        simp only [Op.equalIn, Sem.run_bind, hrun _ hdsc, Result.andThen_ok]; rfl
      · rename_i fs a b' hdsc
        split at h
        · rename_i hok
          obtain ⟨xs, rfl, ha⟩ := hx.of_agg
          obtain ⟨ys, rfl, hb⟩ := hy.of_agg
          have hfs : P.fieldsOf t = fs := by unfold Program.fieldsOf; rw [hT.und, hdsc]
          rw [run_equalIn_struct w d' t xs ys (by rw [hfs, hT.und, hdsc]) (hΓ.eqok t hok).2, hfs]
          exact eqFs_ok hΓ w (eqD Γ d) d' (fun t x y c e b h1 h2 h3 => ih t x y c e b h1 h2 h3 d' (by omega)) ha hb _ _ h
        · cases h
      · cases h

theorem guard_ok (op : BinOp) (T : TypeId) (x y : Operand) (c d : Value) (w : World) (h : (∃ a, c = .agg a) ∨ (∃ a, d = .agg a) → P.eqGuardType P.depth T = false) (hn : c ≠ .nilIface) : (eqGuard op T x y c d).run P w = .ok () w := by
  have key : ∀ op', (op' = .eql ∨ op' = .neq) → (eqGuard op' T x y c d).run P w = .ok () w := fun op' hop => by
    rcases hop with rfl | rfl
    all_goals
      simp only [eqGuard, Bool.not_true, Bool.false_eq_true, if_false]
      split
      · exact absurd rfl hn
      · simp [h (.inl ⟨_, rfl⟩)]
      · rfl
  cases op <;> first
    | exact key _ (.inl rfl)
    | exact key _ (.inr rfl)
    | rfl
def eqKind : Value → Bool
  | .bool _ | .pointer _ | .map _ | .func _ _ _ | .nilFunc | .agg _ => true
  | _ => false
theorem eql_run (T : TypeId) (c d : Value) (hc : eqKind c = true) (w : World) : (binOp .eql T c d).run P w = ((Op.equalIn 10000 T c d).run P w).andThen fun b w' => .ok (.bool b) w' := by
  cases c <;> first
    | (cases hc; done)
    | (cases d <;> simp only [binOp, Op.equal, Op.maxDepth, Sem.run_bind] <;> rfl)
theorem neq_run (T : TypeId) (c d : Value) (hc : eqKind c = true) (w : World) : (binOp .neq T c d).run P w = ((Op.equalIn 10000 T c d).run P w).andThen fun b w' => .ok (.bool !b) w' := by
  cases c <;> first
    | (cases hc; done)
    | (cases d <;> simp only [binOp, Op.equal, Op.maxDepth, Sem.run_bind] <;> rfl)
theorem eqKind_of {x : AV} {c : Value} (hx : VR s x c) (h : eqKindA x = true) : eqKind c = true ∧ c ≠ .nilIface := by
  cases hx with
  | pv _ _ hp => cases hp <;> first | (cases h; done) | exact ⟨rfl, by simp⟩
  | slc _ _ _ _ _ _ _ _ _ _ _ _ _ => cases h
  | tup _ _ _ _ => cases h
  | _ => exact ⟨rfl, by simp⟩
theorem aggs_eqok {d t : Nat} {x y : AV} {b : Bool} (h : eqD Γ d t x y = some b) (ha : (∃ l, x = .agg l) ∨ ∃ l, y = .agg l) : Γ.eqok t = true := by
  cases d with
  | zero => cases h
  | succ d =>
    rw [eqD] at h
    split at h
    · cases h
    · split at h <;> first
        | (rcases ha with ⟨l, hl⟩ | ⟨l, hl⟩ <;> cases hl; done)
        | (split at h
           · assumption
           · cases h)
        | (cases h; done)
theorem bin_ok (hΓ : Γ.Ok P) {op : BinOp} {T : Nat} {x y v : AV} {c d : Value} (h : binA Γ op T x y = some v) (hx : VR s x c) (hy : VR s y d) (a b : Operand) (w : World) :
    ∃ r, ((do eqGuard op T a b c d; binOp op T c d) : Sem Value).run P w = .ok r w ∧ VR s v r := by
  have key : ∀ (hg : (eqGuard op T a b c d).run P w = .ok () w), (∃ r, (binOp op T c d).run P w = .ok r w ∧ VR s v r) → ∃ r, ((do eqGuard op T a b c d; binOp op T c d) : Sem Value).run P w = .ok r w ∧ VR s v r := fun hg ⟨r, h1, h2⟩ => ⟨r, by simp only [Sem.run_bind, hg, Result.andThen_ok, h1], h2⟩
  have hag : ∀ b', eqD Γ 100 T x y = some b' → (∃ l, c = .agg l) ∨ (∃ l, d = .agg l) → P.eqGuardType P.depth T = false := fun b' hb hcd => by
    refine (hΓ.eqok T (aggs_eqok hb ?_)).1
    rcases hcd with ⟨l, rfl⟩ | ⟨l, rfl⟩
    · left; cases hx with
      | pv _ _ h => cases h
      | agg l _ _ _ => exact ⟨l, rfl⟩
    · right; cases hy with
      | pv _ _ h => cases h
      | agg l _ _ _ => exact ⟨l, rfl⟩
  unfold binA at h
  split at h
  · have := hx.of_int; subst this
    have := hy.of_int; subst this
    exact key (guard_ok _ _ _ _ _ _ _ (by rintro (⟨_, h⟩ | ⟨_, h⟩) <;> cases h) (by simp)) (shift_ok h _ _)
  · have := hx.of_int; subst this
    have := hy.of_int; subst this
    exact key (guard_ok _ _ _ _ _ _ _ (by rintro (⟨_, h⟩ | ⟨_, h⟩) <;> cases h) (by simp)) (shift_ok h _ _)
  · rename_i k a' k' b' h1 h2
    have := hx.of_int; subst this
    have := hy.of_int; subst this
    split at h
    · rename_i hk
      subst hk
      exact key (guard_ok _ _ _ _ _ _ _ (by rintro (⟨_, h⟩ | ⟨_, h⟩) <;> cases h) (by simp)) (int_ok (fun e => h1 e) (fun e => h2 e) h _ _)
    · cases h
  · obtain ⟨u, hu, hu2⟩ := hx.of_str
    obtain ⟨u', hu', hu2'⟩ := hy.of_str
    refine key (guard_ok _ _ _ _ _ _ _ ?_ (by rw [hu]; simp)) (str_ok h hx hy _ _)
    rw [hu, hu']; rintro (⟨_, h⟩ | ⟨_, h⟩) <;> cases h
  · split at h
    · rename_i hk
      simp only [Option.map_eq_some_iff] at h
      obtain ⟨b', hb, rfl⟩ := h
      obtain ⟨e1, e2⟩ := eqKind_of hx hk
      have hr := eqD_ok hΓ w _ _ _ _ _ _ _ hb hx hy 10000 (by omega)
      exact key (guard_ok _ _ _ _ _ _ _ (hag b' hb) e2) ⟨_, by rw [eql_run T c d e1, hr]; rfl, .pv _ _ (.bool _)⟩
    · cases h
  · split at h
    · rename_i hk
      simp only [Option.map_eq_some_iff] at h
      obtain ⟨b', hb, rfl⟩ := h
      obtain ⟨e1, e2⟩ := eqKind_of hx hk
      have hr := eqD_ok hΓ w _ _ _ _ _ _ _ hb hx hy 10000 (by omega)
      exact key (guard_ok _ _ _ _ _ _ _ (hag b' hb) e2) ⟨_, by rw [neq_run T c d e1, hr]; rfl, .pv _ _ (.bool _)⟩
    · cases h
  · cases h
end
end Go.Proofs.YtkgghgigjeihjaaGreat.Sim
