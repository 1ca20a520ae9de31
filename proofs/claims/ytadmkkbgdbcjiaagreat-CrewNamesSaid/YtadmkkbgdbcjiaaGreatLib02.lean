import Derived.Test.YtadmkkbgdbcjiaaGreatLib01
import Derived.Laws.Strings
/-
Operations on one and two values: what the evaluator says is so. No condition.
-/
/-
Operations on two values.
-/
set_option linter.unusedVariables false
set_option linter.unusedSimpArgs false
namespace Go.Drip
section
variable {P : Program} {w : World} {c : Cx}

/-- An operation's value. -/
def Val (P : Program) (w : World) (c : Cx) (s : Sem Value) (x : AV) : Prop := ∃ v, s.run P w = .ok v w ∧ VR w c x v
theorem Val.num {s : Sem Value} {k : IntKind} {m m' : Int} (h : s.run P w = .ok (.int k m') w) (e : m = m') : Val P w c s ⟨.num k m⟩ := ⟨_, h, e ▸ .num k m⟩
theorem Val.bool {s : Sem Value} {b b' : Bool} (h : s.run P w = .ok (.bool b') w) (e : b = b') : Val P w c s ⟨.bool b⟩ := ⟨_, h, e ▸ .bool b⟩

theorem intOp_sound {op : BinOp} {k : IntKind} {m n : Int} {x : AV} (xt : TypeId) (hs : op ≠ .shl) (hs' : op ≠ .shr) (h : (intOp op).f k m n = some x) : Val P w c (binOp op xt (.int k m) (.int k n)) x := by
  have e : intEq n 0 = (n == 0) := intEq_eq n 0
  cases op with
  | shl => exact absurd rfl hs
  | shr => exact absurd rfl hs'
  | add => injection h with h; subst h; exact .num (m' := k.wrap (m + n)) (by simp [binOp, Op.intArith]) (by rw [wrapF_eq, addF_eq])
  | sub => injection h with h; subst h; exact .num (m' := k.wrap (m - n)) (by simp [binOp, Op.intArith]) (by rw [wrapF_eq, subF_eq])
  | mul => injection h with h; subst h; exact .num (m' := k.wrap (m * n)) (by simp [binOp, Op.intArith]) (by rw [wrapF_eq])
  | quo =>
    change cnd (intEq n 0) none _ = _ at h
    rw [e] at h
    cases hn : n == 0 with
    | true => rw [hn] at h; cases h
    | false =>
      rw [hn] at h; injection h with h; subst h
      have : n ≠ 0 := by simpa using hn
      exact .num (m' := k.wrap (m.tdiv n)) (by simp [binOp, Op.intDiv, this]) (by rw [wrapF_eq])
  | rem =>
    change cnd (intEq n 0) none _ = _ at h
    rw [e] at h
    cases hn : n == 0 with
    | true => rw [hn] at h; cases h
    | false =>
      rw [hn] at h; injection h with h; subst h
      have : n ≠ 0 := by simpa using hn
      exact .num (m' := m.tmod n) (by simp [binOp, Op.intDiv, this]) rfl
  | and => injection h with h; subst h; exact .num (by simp only [binOp, Op.intBits, ne_eq, not_true_eq_false, if_false]; rfl) rfl
  | or => injection h with h; subst h; exact .num (by simp only [binOp, Op.intBits, ne_eq, not_true_eq_false, if_false]; rfl) rfl
  | xor => injection h with h; subst h; exact .num (by simp only [binOp, Op.intBits, ne_eq, not_true_eq_false, if_false]; rfl) rfl
  | andNot => injection h with h; subst h; exact .num (by simp only [binOp, Op.intBits, ne_eq, not_true_eq_false, if_false]; rfl) rfl
  | eql => injection h with h; subst h; exact .bool (b' := m == n) (by simp [binOp, Op.intCmp]) (intEq_eq _ _)
  | neq => injection h with h; subst h; exact .bool (b' := m != n) (by simp [binOp, Op.intCmp]) (by rw [not'_eq, intEq_eq]; rfl)
  | lss => injection h with h; subst h; exact .bool (b' := decide (m < n)) (by simp [binOp, Op.intCmp]) (intLt_eq _ _)
  | leq => injection h with h; subst h; exact .bool (b' := decide (m ≤ n)) (by simp [binOp, Op.intCmp]) (by rw [not'_eq, intLt_eq, ← decide_not]; exact decide_eq_decide.2 (by omega))
  | gtr => injection h with h; subst h; exact .bool (b' := decide (m > n)) (by simp [binOp, Op.intCmp]) (intLt_eq _ _)
  | geq => injection h with h; subst h; exact .bool (b' := decide (m ≥ n)) (by simp [binOp, Op.intCmp]) (by rw [not'_eq, intLt_eq, ← decide_not]; exact decide_eq_decide.2 (by omega))

theorem shift_sound {op : BinOp} {x y r : AV} {a b : Value} (xt : TypeId) (ha : VR w c x a) (hb : VR w c y b) (hop : op = .shl ∨ op = .shr) (d : TypeDesc) (nf : Option (List (Option IntKind))) (h : (binA d nf op).f x y = some r) :
    Val P w c (binOp op xt a b) r := by
  rcases hop with rfl | rfl
  · obtain ⟨k, m, rfl, h⟩ := onNum_some (h : shiftF shlF x y = some r)
    obtain ⟨j, n, rfl, h⟩ := onNum_some h
    rw [ha.inv_num, hb.inv_num]
    change cnd (intLt n 0) none _ = _ at h
    rw [intLt_eq] at h
    by_cases hn : n < 0
    · rw [decide_eq_true hn] at h; cases h
    · rw [decide_eq_false hn] at h; injection h with h; subst h
      exact .num (m' := k.wrap (m * 2 ^ min n.toNat k.bits)) (by simp [binOp, Op.shift, hn]) rfl
  · obtain ⟨k, m, rfl, h⟩ := onNum_some (h : shiftF shrF x y = some r)
    obtain ⟨j, n, rfl, h⟩ := onNum_some h
    rw [ha.inv_num, hb.inv_num]
    change cnd (intLt n 0) none _ = _ at h
    rw [intLt_eq] at h
    by_cases hn : n < 0
    · rw [decide_eq_true hn] at h; cases h
    · rw [decide_eq_false hn] at h; injection h with h; subst h
      exact .num (m' := m.fdiv (2 ^ min n.toNat k.bits)) (by simp [binOp, Op.shift, hn]) rfl

theorem eqOp_some {op : BinOp} {b : Bool} {x : AV} (h : (eqOp op).f b = some x) : (op = .eql ∧ x = ⟨.bool b⟩) ∨ (op = .neq ∧ x = ⟨.bool (!b)⟩) := by
  cases op <;> first
    | (injection h with h; subst h; exact .inl ⟨rfl, rfl⟩)
    | (injection h with h; subst h; exact .inr ⟨rfl, by rw [not'_eq]⟩)
    | cases h

/-- An equation by Op.equal. -/
theorem eq_sound {op : BinOp} {b : Bool} {x : AV} {xt : TypeId} {u v : Value} (h : (eqOp op).f b = some x) (hu : (Op.equal xt u v).run P w = .ok b w)
    (he : binOp .eql xt u v = (do pure (.bool (← Op.equal xt u v)))) (hn : binOp .neq xt u v = (do pure (.bool (!(← Op.equal xt u v))))) : Val P w c (binOp op xt u v) x := by
  rcases eqOp_some h with ⟨rfl, rfl⟩ | ⟨rfl, rfl⟩
  · rw [he]; exact .bool (b' := b) (by simp [hu]) rfl
  · rw [hn]; exact .bool (b' := !b) (by simp [hu]) rfl

theorem equalIn_pointer (n : Nat) {xt e : TypeId} (h : P.underlying xt = some (.pointer e)) (A B : Option Addr) (hab : A = none ∨ B = none) : (Op.equalIn (n + 1) xt (.pointer A) (.pointer B)).run P w = .ok (A.isNone && B.isNone) w := by
  simp only [Op.equalIn, Sem.run_bind, run_und w h, Result.andThen_ok]
  rcases hab with rfl | rfl
  · cases B <;> rfl
  · cases A <;> rfl
theorem equal_pointer {xt e : TypeId} (h : P.underlying xt = some (.pointer e)) (A B : Option Addr) (hab : A = none ∨ B = none) : (Op.equal xt (.pointer A) (.pointer B)).run P w = .ok (A.isNone && B.isNone) w := equalIn_pointer 9999 h A B hab
theorem equalIn_slice (d : Nat) {xt e : TypeId} (h : P.underlying xt = some (.slice e)) (A : Option Addr) (n k : Nat) : (Op.equalIn (d + 1) xt (.slice A n k) (.slice none 0 0)).run P w = .ok A.isNone w := by
  simp only [Op.equalIn, Sem.run_bind, run_und w h, Result.andThen_ok]
  cases A <;> rfl
theorem equal_slice {xt e : TypeId} (h : P.underlying xt = some (.slice e)) (A B : Option Addr) (n m k l : Nat) (hab : (B = none ∧ m = 0 ∧ l = 0)) : (Op.equal xt (.slice A n k) (.slice B m l)).run P w = .ok A.isNone w := by
  obtain ⟨rfl, rfl, rfl⟩ := hab
  exact equalIn_slice 9999 h A n k
theorem equalIn_func (d : Nat) {xt : TypeId} {ps rs : Array TypeId} {v : Bool} (h : P.underlying xt = some (.func ps rs v)) (a b : Value) (r : Bool)
    (hab : (a = .nilFunc ∧ b = .nilFunc ∧ r = true) ∨ (∃ f x y, a = .nilFunc ∧ b = .func f x y ∧ r = false) ∨ (∃ f x y, b = .nilFunc ∧ a = .func f x y ∧ r = false)) : (Op.equalIn (d + 1) xt a b).run P w = .ok r w := by
  rcases hab with ⟨rfl, rfl, rfl⟩ | ⟨f, x, y, rfl, rfl, rfl⟩ | ⟨f, x, y, rfl, rfl, rfl⟩ <;> simp only [Op.equalIn, Sem.run_bind, run_und w h, Result.andThen_ok] <;> rfl
theorem equal_func {xt : TypeId} {ps rs : Array TypeId} {v : Bool} (h : P.underlying xt = some (.func ps rs v)) (a b : Value) (r : Bool)
    (hab : (a = .nilFunc ∧ b = .nilFunc ∧ r = true) ∨ (∃ f x y, a = .nilFunc ∧ b = .func f x y ∧ r = false) ∨ (∃ f x y, b = .nilFunc ∧ a = .func f x y ∧ r = false)) : (Op.equal xt a b).run P w = .ok r w := equalIn_func 9999 h a b r hab

theorem nilEq_sound {op : BinOp} {x y r : AV} {a b : Value} {xt : TypeId} {d : TypeDesc} (hd : P.underlying xt = some d) (ha : VR w c x a) (hb : VR w c y b) (h : nilEqF d (eqOp op).f x.f y.f = some r) :
    Val P w c (binOp op xt a b) r ∧ (∀ p q, eqGuard op xt p q a b = pure ()) := by
  obtain ⟨x⟩ := x
  obtain ⟨y⟩ := y
  have hg : ∀ (u v : Value) (p q : Operand), (u ≠ .nilIface ∨ v ≠ .nilIface) → (∀ cs, u ≠ .agg cs) → eqGuard op xt p q u v = pure () := by
    intro u v p q h1 h2
    unfold eqGuard
    cases op <;> simp <;> (cases u <;> cases v <;> simp_all)
  simp only [nilEqF] at h
  split at h
  all_goals first
    | cases h
    | skip
  all_goals (cases ha <;> cases hb)
  all_goals refine ⟨?_, fun p q => hg _ _ p q (.inl (by simp)) (by simp)⟩
  all_goals first
    | exact eq_sound h (equal_pointer hd none none (.inl rfl)) rfl rfl
    | exact eq_sound h (equal_pointer hd _ none (.inr rfl)) rfl rfl
    | exact eq_sound h (equal_pointer hd none _ (.inl rfl)) rfl rfl
    | exact eq_sound h (equal_slice hd none none 0 0 0 0 ⟨rfl, rfl, rfl⟩) rfl rfl
    | exact eq_sound h (equal_slice hd _ none _ 0 _ 0 ⟨rfl, rfl, rfl⟩) rfl rfl
    | exact eq_sound (mark_false h) (equal_slice hd _ none _ 0 _ 0 ⟨rfl, rfl, rfl⟩) rfl rfl
    | (rename_i A k hA
       have hA' : A ≠ none := fun e => by rw [hA e] at h; cases h
       cases A with
       | none => exact absurd rfl hA'
       | some A => exact eq_sound (mark_false h) (equal_slice hd _ none _ 0 _ 0 ⟨rfl, rfl, rfl⟩) rfl rfl)
    | cases h
    | skip
  all_goals
    refine eq_sound h (equal_func hd _ _ _ ?_) rfl rfl
    first
      | exact .inl ⟨rfl, rfl, rfl⟩
      | exact .inr (.inl ⟨_, _, _, rfl, rfl, rfl⟩)
      | exact .inr (.inr ⟨_, _, _, rfl, rfl, rfl⟩)
end
end Go.Drip

/-
Operations that look at no memory: all of them.
-/
set_option linter.unusedVariables false
set_option linter.unusedSimpArgs false
namespace Go.Drip
section
variable {P : Program} {w : World} {c : Cx}

theorem cellEq_some {x y : AV} {e : Bool} (h : cellEq x y = some e) : ((∃ k a b, x = ⟨.num k a⟩ ∧ y = ⟨.num k b⟩) ∨ ∃ a b, x = ⟨.bool a⟩ ∧ y = ⟨.bool b⟩) ∧ (e = true ↔ x = y) := by
  obtain ⟨x⟩ := x
  cases x with
  | num j a =>
    obtain ⟨k, b, rfl, h⟩ := onNum_some (h : y.onNum none _ = some e)
    obtain ⟨h1, h2⟩ := cnd_some h
    have := kindEq_true h1; subst this
    injection h2 with h2; subst h2
    refine ⟨.inl ⟨j, a, b, rfl, rfl⟩, ?_⟩
    rw [intEq_eq, beq_iff_eq]
    exact ⟨fun h => by rw [h], fun h => by injection h with h; injection h⟩
  | bool a =>
    obtain ⟨b, rfl, h⟩ := onBool_some (h : y.onBool none _ = some e)
    injection h with h; subst h
    refine ⟨.inr ⟨a, b, rfl, rfl⟩, ?_⟩
    rw [boolEq_eq, beq_iff_eq]
    exact ⟨fun h => by rw [h], fun h => by injection h with h; injection h⟩
  | ptr => cases h
  | sl => cases h
  | agg => cases h
  | x => cases h
theorem flatEq_some {cs ds : List AV} {r : Bool} (h : flatEq cs ds = some r) : cs.length = ds.length ∧
    (∀ (i : Nat) (u v : AV), cs[i]? = some u → ds[i]? = some v → (∃ k a b, u = ⟨.num k a⟩ ∧ v = ⟨.num k b⟩) ∨ ∃ a b, u = ⟨.bool a⟩ ∧ v = ⟨.bool b⟩) ∧ (r = true ↔ cs = ds) := by
  induction cs generalizing ds r with
  | nil =>
    cases ds with
    | nil => injection h with h; subst h; exact ⟨rfl, fun i u v hu => by simp at hu, by simp⟩
    | cons _ _ => cases h
  | cons a cs ih =>
    cases ds with
    | nil => cases h
    | cons b ds =>
      obtain ⟨e, he, h⟩ := ob_some (h : ob (cellEq a b) (fun e => ob (flatEq cs ds) fun r => some (cnd e r false)) = some r)
      obtain ⟨r', hr, h⟩ := ob_some h
      injection h with h; subst h
      obtain ⟨h1, h2⟩ := cellEq_some he
      obtain ⟨h3, h4, h5⟩ := ih hr
      refine ⟨by simp [h3], fun i u v hu hv => ?_, ?_⟩
      · cases i with
        | zero => simp at hu hv; subst hu; subst hv; exact h1
        | succ i => exact h4 i u v (by simpa using hu) (by simpa using hv)
      · cases e with
        | false => simp only [cnd_false, List.cons.injEq]; constructor
                   · intro h; cases h
                   · intro h; have := h2.2 h.1; cases this
        | true => simp only [cnd_true, List.cons.injEq, h2.1 rfl, true_and]; exact h5

theorem arr_ext {xs ys : Array Value} (h : xs.size = ys.size) (hh : ∀ i, i < xs.size → xs[i]? = ys[i]?) : xs = ys := by
  apply Array.ext_getElem?
  intro i
  by_cases hi : i < xs.size
  · exact hh i hi
  · rw [Array.getElem?_eq_none (by omega), Array.getElem?_eq_none (by omega)]

theorem kdsOk_spec : ∀ {ks : List (Option IntKind)} {l : List AV}, kdsOk ks l = true → l.length = ks.length ∧ ∀ (i : Nat) (u : AV), l[i]? = some u → (∃ (k : IntKind) (a : Int), ks[i]? = some (some k) ∧ u = ⟨.num k a⟩) ∨ ∃ a : Bool, ks[i]? = some none ∧ u = ⟨.bool a⟩ := by
  intro ks
  induction ks with
  | nil =>
    intro l h
    cases l with
    | nil => exact ⟨rfl, fun i u hu => by simp at hu⟩
    | cons a l => cases h
  | cons k ks ih =>
    intro l h
    cases l with
    | nil => cases h
    | cons a l =>
      change cnd (kdOk k a) (kdsOk ks l) false = true at h
      cases hk : kdOk k a with
      | false => rw [hk] at h; cases h
      | true =>
        rw [hk] at h
        obtain ⟨h1, h2⟩ := ih h
        refine ⟨by simp [h1], fun i u hu => ?_⟩
        cases i with
        | zero =>
          simp at hu; subst hu
          obtain ⟨a⟩ := a
          cases k with
          | none => cases a <;> first | exact .inr ⟨_, rfl, rfl⟩ | cases hk
          | some k =>
            cases a with
            | num j n => have := kindEq_true (hk : kindEq j k = true); subst this; exact .inl ⟨_, _, rfl, rfl⟩
            | _ => cases hk
        | succ i => simpa using h2 i u (by simpa using hu)
theorem kdIs_some {ks : List (Option IntKind)} {l m : List AV} (h : kdIs ks l = some m) : m = l ∧ kdsOk ks l = true := by
  obtain ⟨h1, h2⟩ := cnd_some h
  injection h2 with h2
  exact ⟨h2.symm, h1⟩

theorem flat_sound {t : Tab} (ht : t.Ok P) {cs ds : List AV} {xs ys : Array Value} {xt : TypeId} {e : Bool} {ks : List (Option IntKind)} (hn : t.flat xt = some ks) (hcn : kdsOk ks cs = true) (hx : CsR w c cs xs) (hy : CsR w c ds ys)
    (hf : flatEq cs ds = some e) : xs.size = ks.length ∧ ys.size = ks.length ∧ Kdp ks xs ys ∧
    (e = true ↔ xs = ys) ∧ ∀ w, (Op.equal xt (.agg xs) (.agg ys)).run P w = .ok e w := by
  obtain ⟨h1, h2, h3⟩ := flatEq_some hf
  obtain ⟨hg, heq⟩ := ht.flat xt ks hn
  obtain ⟨hcl, hkd⟩ := kdsOk_spec hcn
  have hxn : xs.size = ks.length := by rw [← hx.len, hcl]
  have hyn : ys.size = ks.length := by rw [← hy.len, ← h1, hcl]
  have hcell : ∀ (i : Nat) (x y : Value), xs[i]? = some x → ys[i]? = some y → ∃ u v, cs[i]? = some u ∧ ds[i]? = some v ∧ VR w c u x ∧ VR w c v y := fun i x y hi hj => by
    have l1 := (Array.getElem?_eq_some_iff.1 hi).1
    have l2 := (Array.getElem?_eq_some_iff.1 hj).1
    have e1 : cs[i]? = some (cs[i]'(by rw [hx.len]; exact l1)) := List.getElem?_eq_getElem _
    have e2 : ds[i]? = some (ds[i]'(by rw [hy.len]; exact l2)) := List.getElem?_eq_getElem _
    exact ⟨_, _, e1, e2, hx.at_ i _ _ e1 hi, hy.at_ i _ _ e2 hj⟩
  have hpair : Kdp ks xs ys := fun i x y hi hj => by
    obtain ⟨u, v, e1, e2, v1, v2⟩ := hcell i x y hi hj
    rcases h2 i u v e1 e2 with ⟨k, a, b, rfl, rfl⟩ | ⟨a, b, rfl, rfl⟩
    · rcases hkd i _ e1 with ⟨k', a', hk, hu⟩ | ⟨a', hk, hu⟩
      · injection hu with hu; injection hu with hu1 hu2; subst hu1
        exact .inl ⟨k, a, b, hk, v1.inv_num, v2.inv_num⟩
      · injection hu with hu; cases hu
    · rcases hkd i _ e1 with ⟨k', a', hk, hu⟩ | ⟨a', hk, hu⟩
      · injection hu with hu; cases hu
      · exact .inr ⟨a, b, hk, v1.inv_bool, v2.inv_bool⟩
  have hee : e = true ↔ xs = ys := by
    rw [h3]
    constructor
    · intro hcd
      subst hcd
      refine arr_ext (by rw [hxn, hyn]) fun i hi => ?_
      have ex : xs[i]? = some xs[i] := Array.getElem?_eq_getElem hi
      have ey : ys[i]? = some (ys[i]'(by omega)) := Array.getElem?_eq_getElem _
      obtain ⟨u, v, e1, e2, v1, v2⟩ := hcell i _ _ ex ey
      rw [ex, ey]
      rw [e1] at e2; injection e2 with e2; subst e2
      rcases h2 i u u e1 e1 with ⟨k, a, b, h, _⟩ | ⟨a, b, h, _⟩ <;> subst h
      · rw [v1.inv_num, v2.inv_num]
      · rw [v1.inv_bool, v2.inv_bool]
    · intro hxy
      subst hxy
      apply List.ext_getElem?
      intro i
      by_cases hi : i < xs.size
      · have ex : xs[i]? = some xs[i] := Array.getElem?_eq_getElem hi
        obtain ⟨u, v, e1, e2, v1, v2⟩ := hcell i _ _ ex ex
        rw [e1, e2]
        rcases h2 i u v e1 e2 with ⟨k, a, b, h, h'⟩ | ⟨a, b, h, h'⟩ <;> subst h <;> subst h'
        · have := v1.inv_num.symm.trans v2.inv_num; injection this with _ this; rw [this]
        · have := v1.inv_bool.symm.trans v2.inv_bool; injection this with this; rw [this]
      · rw [List.getElem?_eq_none (by rw [hx.len]; omega), List.getElem?_eq_none (by rw [hy.len]; omega)]
  refine ⟨hxn, hyn, hpair, hee, fun w => ?_⟩
  obtain ⟨⟨e', hrun, he'⟩, _⟩ := heq xs ys w hxn hyn hpair
  have : e = e' := by rw [Bool.eq_iff_iff, hee, he']
  rw [this]; exact hrun

theorem agg_eq_sound {t : Tab} (ht : t.Ok P) {op : BinOp} {cs ds : List AV} {r : AV} {xs ys : Array Value} {xt : TypeId} {e : Bool} {ks : List (Option IntKind)} (hn : t.flat xt = some ks) (hcn : kdsOk ks cs = true) (hx : CsR w c cs xs) (hy : CsR w c ds ys)
    (hf : flatEq cs ds = some e) (h : (eqOp op).f e = some r) (p q : Operand) : ∃ v, (do eqGuard op xt p q (.agg xs) (.agg ys); binOp op xt (.agg xs) (.agg ys)).run P w = .ok v w ∧ VR w c r v := by
  obtain ⟨_, _, _, _, hrun⟩ := flat_sound ht hn hcn hx hy hf
  have hrun := hrun w
  have hg := (ht.flat xt ks hn).1
  rcases eqOp_some h with ⟨rfl, rfl⟩ | ⟨rfl, rfl⟩
  · exact ⟨.bool e, by simp [eqGuard, hg, binOp, hrun], .bool e⟩
  · exact ⟨.bool (!e), by simp [eqGuard, hg, binOp, hrun], .bool _⟩

theorem str_eq_sound {op : BinOp} {s u : ByteArray} {r : AV} {xt : TypeId} (h : (eqOp op).f (bytesEq s.data.toList u.data.toList) = some r) (p q : Operand) :
    ∃ v, (do eqGuard op xt p q (.string s) (.string u); binOp op xt (.string s) (.string u)).run P w = .ok v w ∧ VR w c r v := by
  rw [bytesEq_eq] at h
  have e1 : s.toList = s.data.toList := ByteArray.toList_eq s
  have e2 : u.toList = u.data.toList := ByteArray.toList_eq u
  rcases eqOp_some h with ⟨rfl, rfl⟩ | ⟨rfl, rfl⟩
  · exact ⟨.bool (s.data.toList == u.data.toList), by simp [eqGuard, binOp, Op.stringOp, e1, e2], .bool _⟩
  · exact ⟨.bool (!(s.data.toList == u.data.toList)), by simp [eqGuard, binOp, Op.stringOp, e1, e2], .bool _⟩

theorem guard_none {op : BinOp} {xt : TypeId} {p q : Operand} {a b : Value} (ha : a ≠ .nilIface) (ha' : ∀ cs, a ≠ .agg cs) : eqGuard op xt p q a b = pure () := by
  unfold eqGuard
  cases op <;> simp <;> (cases a <;> cases b <;> simp_all)

theorem bool_eq_sound {op : BinOp} {a b : Bool} {r : AV} {xt : TypeId} (hd : P.underlying xt = some .bool) (h : (eqOp op).f (boolEq a b) = some r) (p q : Operand) :
    ∃ v, (do eqGuard op xt p q (.bool a) (.bool b); binOp op xt (.bool a) (.bool b)).run P w = .ok v w ∧ VR w c r v := by
  rw [boolEq_eq] at h
  rw [guard_none (by simp) (by simp)]
  rcases eqOp_some h with ⟨rfl, rfl⟩ | ⟨rfl, rfl⟩
  · exact ⟨.bool (a == b), by simp [run_eql_bool w xt a b hd], .bool _⟩
  · exact ⟨.bool (!(a == b)), by simp [run_neq_bool w xt a b hd], .bool _⟩

theorem onX_cases (x : AV) : (∃ k n, x = ⟨.num k n⟩) ∨ (∃ b, x = ⟨.bool b⟩) ∨ (∃ b r k, x = ⟨.ptr b r k⟩) ∨ (∃ b r n s k, x = ⟨.sl b r n s k⟩) ∨ (∃ cs, x = ⟨.agg cs⟩) ∨ ∃ u, x = ⟨.x u⟩ := by
  obtain ⟨x⟩ := x
  cases x with
  | num k n => exact .inl ⟨_, _, rfl⟩
  | bool b => exact .inr (.inl ⟨_, rfl⟩)
  | ptr b r k => exact .inr (.inr (.inl ⟨_, _, _, rfl⟩))
  | sl b r n s k => exact .inr (.inr (.inr (.inl ⟨_, _, _, _, _, rfl⟩)))
  | agg cs => exact .inr (.inr (.inr (.inr (.inl ⟨_, rfl⟩))))
  | x u => exact .inr (.inr (.inr (.inr (.inr ⟨_, rfl⟩))))

theorem binF_sound {t : Tab} (ht : t.Ok P) {op : BinOp} (hs : op ≠ .shl) (hs' : op ≠ .shr) {x y r : AV} {a b : Value} {xt : TypeId} {d : TypeDesc} (hd : P.underlying xt = some d) (ha : VR w c x a) (hb : VR w c y b)
    (h : binF (isBoolD d) (t.flat xt) (intOp op).f (eqOp op).f (nilEqF d (eqOp op).f) x y = some r) (p q : Operand) :
    ∃ v, (do eqGuard op xt p q a b; binOp op xt a b).run P w = .ok v w ∧ VR w c r v := by
  have nil : nilEqF d (eqOp op).f x.f y.f = some r → ∃ v, (do eqGuard op xt p q a b; binOp op xt a b).run P w = .ok v w ∧ VR w c r v := fun h => by
    obtain ⟨⟨v, hv, hr⟩, hg⟩ := nilEq_sound hd ha hb h
    exact ⟨v, by rw [hg p q]; simpa using hv, hr⟩
  rcases onX_cases x with ⟨k, n, rfl⟩ | ⟨u, rfl⟩ | ⟨_, _, _, rfl⟩ | ⟨_, _, _, _, _, rfl⟩ | ⟨cs, rfl⟩ | ⟨u, rfl⟩
  · obtain ⟨j, m, rfl, h⟩ := onNum_some (h : y.onNum none _ = some r)
    obtain ⟨h1, h2⟩ := cnd_some h
    have := kindEq_true h1; subst this
    rw [ha.inv_num, hb.inv_num, guard_none (by simp) (by simp)]
    obtain ⟨v, hv, hr⟩ := intOp_sound (P := P) (w := w) (c := c) xt hs hs' h2
    exact ⟨v, by simpa using hv, hr⟩
  · obtain ⟨u', rfl, h⟩ := onBool_some (h : y.onBool none _ = some r)
    obtain ⟨h1, h2⟩ := cnd_some h
    rw [ha.inv_bool, hb.inv_bool]
    have : d = .bool := by cases d <;> first | rfl | cases h1
    subst this
    exact bool_eq_sound hd h2 p q
  · exact nil h
  · exact nil h
  · obtain ⟨ds, rfl, h⟩ := onAgg_some (h : y.onAgg none _ = some r)
    obtain ⟨n, hn, h2⟩ := ob_some (h : ob (t.flat xt) (fun n => ob (kdIs n cs) fun cs => ob (flatEq cs ds) (eqOp op).f) = some r)
    obtain ⟨cs', hcs, h3⟩ := ob_some h2
    obtain ⟨hcc, hl⟩ := kdIs_some hcs
    subst hcc
    obtain ⟨e, he, h4⟩ := ob_some h3
    obtain ⟨xs, rfl, l1, o1, v1⟩ := ha.inv_agg
    obtain ⟨ys, rfl, l2, o2, v2⟩ := hb.inv_agg
    exact agg_eq_sound ht hn hl ⟨l1, o1, v1⟩ ⟨l2, o2, v2⟩ he h4 p q
  · change binX _ _ _ _ u = some r at h
    cases u with
    | str s =>
      obtain ⟨u, rfl, h⟩ := onStr_some (h : y.onStr none _ = some r)
      obtain ⟨s', rfl, rfl⟩ := ha.inv_str
      obtain ⟨u', rfl, rfl⟩ := hb.inv_str
      exact str_eq_sound h p q
    | any => exact nil h
    | oth v => exact nil h
    | nils => exact nil h
    | nilp => exact nil h
    | nilf => exact nil h
    | ip cs => exact nil h
    | z => exact nil h
    | imm s n f => exact nil h
    | mp b => exact nil h
    | fn f a b => exact nil h
    | tup vs => exact nil h
    | und => exact nil h
theorem binA_sound {t : Tab} (ht : t.Ok P) {op : BinOp} {x y r : AV} {a b : Value} {xt : TypeId} {d : TypeDesc} (hd : P.underlying xt = some d) (ha : VR w c x a) (hb : VR w c y b)
    (h : (binA d (t.flat xt) op).f x y = some r) (p q : Operand) : ∃ v, (do eqGuard op xt p q a b; binOp op xt a b).run P w = .ok v w ∧ VR w c r v := by
  by_cases hs : op = .shl ∨ op = .shr
  · obtain ⟨v, hv, hr⟩ := shift_sound (P := P) xt ha hb hs d (t.flat xt) h
    refine ⟨v, ?_, hr⟩
    have : eqGuard op xt p q a b = pure () := by unfold eqGuard; rcases hs with rfl | rfl <;> simp
    rw [this]; simpa using hv
  · have h1 : op ≠ .shl := fun e => hs (.inl e)
    have h2 : op ≠ .shr := fun e => hs (.inr e)
    refine binF_sound ht h1 h2 hd ha hb ?_ p q
    cases op <;> first | exact h | exact absurd rfl h1 | exact absurd rfl h2
end
end Go.Drip

