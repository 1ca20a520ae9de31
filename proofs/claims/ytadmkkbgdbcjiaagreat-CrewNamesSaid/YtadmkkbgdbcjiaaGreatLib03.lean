import Derived.Test.YtadmkkbgdbcjiaaGreatLib02
import Derived.Laws.Tables
import Derived.Laws.Slices
import Derived.Laws.Unary
import Derived.MapKept
/-
Operations that look at no memory, and those that read it. No condition.
-/
/-
Operations that look at no memory: all of them.
-/
set_option linter.unusedVariables false
set_option linter.unusedSimpArgs false
namespace Go.Drip
section
variable {P : Program} {w : World} {c : Cx} {n : Nat} {kp : Kp} {R : Rl} {T : Tr AV} {a : Act} {t : Tab}

theorem evs_sound (hA : AR w c n kp R T a) (l : List Operand) : ((evs kp l).f R T).length = l.length ∧ ∀ (i : Nat) (u : AV) (v : Value), ((evs kp l).f R T)[i]? = some u → (l.map a.eval)[i]? = some v → VR w c u v := by
  induction l with
  | nil => exact ⟨rfl, fun i u v hu => by simp [evs] at hu⟩
  | cons x l ih =>
    refine ⟨by show (_ :: (evs kp l).f R T).length = _; simp [ih.1], fun i u v hu hv => ?_⟩
    change (_ :: (evs kp l).f R T)[i]? = some u at hu
    cases i with
    | zero => simp at hu hv; subst hu; subst hv; exact opd_sound hA x
    | succ i => exact ih.2 i u v (by simpa using hu) (by simpa using hv)

/-! ### Building -/
theorem setCells_spec (v : List Value) (o : Nat) (arr : Array Value) (j0 : Nat) : (v.zipIdx j0).foldl (fun cs (p : Value × Nat) => cs.setIfInBounds (o + p.2) p.1) arr =
    (v.zipIdx j0).foldl (fun cs (p : Value × Nat) => cs.setIfInBounds (o + p.2) p.1) arr ∧
    ((v.zipIdx j0).foldl (fun cs (p : Value × Nat) => cs.setIfInBounds (o + p.2) p.1) arr).size = arr.size ∧
    ∀ i, ((v.zipIdx j0).foldl (fun cs (p : Value × Nat) => cs.setIfInBounds (o + p.2) p.1) arr)[i]? = if o + j0 ≤ i ∧ i < o + j0 + v.length ∧ i < arr.size then v[i - (o + j0)]? else arr[i]? := by
  refine ⟨rfl, ?_⟩
  induction v generalizing arr j0 with
  | nil => exact ⟨rfl, fun i => by simp; intro h1 h2; omega⟩
  | cons x v ih =>
    simp only [List.zipIdx_cons, List.foldl_cons]
    obtain ⟨h1, h2⟩ := ih (arr.setIfInBounds (o + j0) x) (j0 + 1)
    refine ⟨by rw [h1]; simp, fun i => ?_⟩
    rw [h2 i]
    simp only [Array.size_setIfInBounds, List.length_cons]
    by_cases hi : i = o + j0
    · subst hi
      rw [if_neg (by omega)]
      by_cases hs : o + j0 < arr.size
      · rw [if_pos (by omega)]; simp [hs]
      · rw [if_neg (by omega)]; rw [Array.getElem?_eq_none (by simp; omega), Array.getElem?_eq_none (by omega)]
    · rw [Array.getElem?_setIfInBounds_ne (by omega)]
      by_cases hc : o + (j0 + 1) ≤ i ∧ i < o + (j0 + 1) + v.length ∧ i < arr.size
      · rw [if_pos hc, if_pos (by omega)]
        have : i - (o + j0) = (i - (o + (j0 + 1))) + 1 := by omega
        rw [this, List.getElem?_cons_succ]
      · rw [if_neg hc, if_neg (by omega)]

theorem fill_sound (place : Nat → Option (Nat × Nat)) (ps : List ((Nat × Nat) × AV)) : ∀ (parts : List (Nat × Value)) (cells : List AV) (arr : Array Value) (r : List AV),
    ps.length = parts.length → (∀ (i : Nat) (p : (Nat × Nat) × AV) (q : Nat × Value), ps[i]? = some p → parts[i]? = some q → place q.1 = some p.1 ∧ VR w c p.2 q.2) →
    CsR w c cells arr → fillA ps cells = some r → ∃ arr', Instr.fill place arr parts = some arr' ∧ CsR w c r arr' ∧ arr'.size = arr.size := by
  induction ps with
  | nil =>
    intro parts cells arr r hl _ hc h
    cases parts with
    | nil => injection h with h; subst h; exact ⟨arr, rfl, hc, rfl⟩
    | cons _ _ => simp at hl
  | cons p ps ih =>
    intro parts cells arr r hl hp hc h
    cases parts with
    | nil => simp at hl
    | cons q parts =>
      obtain ⟨⟨po, pz⟩, px⟩ := p
      obtain ⟨hpl, hpv⟩ := hp 0 ((po, pz), px) q rfl rfl
      change cnd (Nat.beq pz 0) none (cnd (Nat.beq (len px.cells) pz) (cnd (Nat.ble (Nat.add po pz) (len cells)) (fillA ps (over cells po px.cells)) none) none) = some r at h
      cases h0 : Nat.beq pz 0 with
      | true => rw [h0] at h; cases h
      | false =>
        rw [h0] at h
        obtain ⟨h1, h⟩ := cnd_some h
        obtain ⟨h2, h⟩ := cnd_some h
        have h1' : px.cells.length = pz := by have := Nat.eq_of_beq_eq_true h1; simpa using this
        have h2' : po + pz ≤ cells.length := by have := Nat.le_of_ble_eq_true h2; simpa using this
        have hne : px.cells ≠ [] := fun e => by
          rw [e] at h1'; simp at h1'
          rw [← h1'] at h0; cases h0
        have hcc := hpv.cells hne
        obtain ⟨_, s1, s2⟩ := setCells_spec q.2.cells.toList po arr 0
        have hql : q.2.cells.size = pz := by rw [← hcc.len, h1']
        have hnew : CsR w c (over cells po px.cells) (q.2.cells.toList.zipIdx.foldl (fun cs (x : Value × Nat) => cs.setIfInBounds (po + x.2) x.1) arr) := by
          refine ⟨by rw [over_length, s1, hc.len], fun i v hi => ?_, fun i u v hu hi => ?_⟩
          · rw [s2] at hi
            split at hi
            · exact hcc.one _ v (by simpa using hi)
            · exact hc.one i v hi
          · rw [s2] at hi
            rw [over_get] at hu
            simp only [Nat.add_zero, Array.length_toList] at hi
            rw [hql] at hi
            rw [h1', hc.len] at hu
            by_cases hcd : po ≤ i ∧ i < po + pz ∧ i < arr.size
            · rw [if_pos hcd] at hi hu
              exact hcc.at_ _ u v hu (by simpa using hi)
            · rw [if_neg hcd] at hi hu
              exact hc.at_ i u v hu hi
        obtain ⟨arr', h3, h4, h5⟩ := ih parts _ _ r (by simpa using hl) (fun i p' q' hi hj => hp (i + 1) p' q' (by simpa using hi) (by simpa using hj)) hnew h
        refine ⟨arr', ?_, h4, by rw [h5, s1]⟩
        have hsz : arr.size = cells.length := hc.len.symm
        obtain ⟨qi, qv⟩ := q
        simp only at hql h3 hpl
        simp only [Instr.fill, hpl]
        rw [if_neg (by simp; exact ⟨hql, by omega⟩)]
        rw [← Array.foldl_toList, Array.toList_zipIdx]
        exact h3

theorem places_some {fs : List (Nat × Nat)} {l : List (Nat × Operand)} {m : List ((Nat × Nat) × Operand)} (h : places fs l = some m) : m.length = l.length ∧
    ∀ (i : Nat) (p : (Nat × Nat) × Operand) (q : Nat × Operand), m[i]? = some p → l[i]? = some q → fs[q.1]? = some p.1 ∧ p.2 = q.2 := by
  induction l generalizing m with
  | nil => injection h with h; subst h; exact ⟨rfl, fun i p q hi => by simp at hi⟩
  | cons x l ih =>
    obtain ⟨f, hf, h⟩ := ob_some (h : ob (nth fs x.1) (fun f => ob (places fs l) fun l => some ((f, x.2) :: l)) = some m)
    obtain ⟨m', hm, h⟩ := ob_some h
    injection h with h; subst h
    obtain ⟨h1, h2⟩ := ih hm
    refine ⟨by simp [h1], fun i p q hi hj => ?_⟩
    cases i with
    | zero => simp at hi hj; subst hi; subst hj; exact ⟨by simpa using hf, rfl⟩
    | succ i => exact h2 i p q (by simpa using hi) (by simpa using hj)
theorem evPs_sound (hA : AR w c n kp R T a) (l : List ((Nat × Nat) × Operand)) : ((evPs kp l).f R T).length = l.length ∧
    ∀ (i : Nat) (p : (Nat × Nat) × AV) (q : (Nat × Nat) × Operand), ((evPs kp l).f R T)[i]? = some p → l[i]? = some q → p.1 = q.1 ∧ VR w c p.2 (a.eval q.2) := by
  induction l with
  | nil => exact ⟨rfl, fun i u v hu => by simp [evPs] at hu⟩
  | cons x l ih =>
    refine ⟨by show (_ :: (evPs kp l).f R T).length = _; simp [ih.1], fun i p q hu hv => ?_⟩
    change (_ :: (evPs kp l).f R T)[i]? = some p at hu
    cases i with
    | zero => simp at hu hv; subst hu; subst hv; exact ⟨rfl, opd_sound hA _⟩
    | succ i => exact ih.2 i p q (by simpa using hu) (by simpa using hv)
theorem zero_CsR (ht : t.Ok P) {ty : TypeId} {zs : List AV} (h : t.zero ty = some zs) : ∃ i z, P.info? ty = some i ∧ i.zero = some z ∧ CsR w c zs z.cells ∧ i.size = zs.length ∧
    (∀ d, P.underlying ty = some d → (isAggD d = true → ∃ cs, z = .agg cs) ∧ (isAggD d = false → z.cells = #[z])) := by
  obtain ⟨i, z, h1, h2, rfl, h3, h4, h5⟩ := ht.zero ty zs h
  refine ⟨i, z, h1, h2, ⟨by simp, fun j v hj => h4 v (by rw [Array.mem_toList_iff]; exact Array.mem_of_getElem? hj), fun j u v hu hv => ?_⟩, by simp [h3], h5⟩
  simp only [List.getElem?_map, Option.map_eq_some_iff] at hu
  obtain ⟨v', hv', rfl⟩ := hu
  have : v = v' := by simpa [hv] using hv'
  subst this
  exact ofVal1_sound _
theorem parts_fill (hA : AR w c n kp R T a) {fs : List (Nat × Nat)} {parts : List (Nat × Operand)} {ps : List ((Nat × Nat) × Operand)} (hp : places fs parts = some ps) {cells : List AV} {arr : Array Value} {r : List AV}
    (hc : CsR w c cells arr) (h : fillA ((evPs kp ps).f R T) cells = some r) : ∃ arr', Instr.fill (fun i => fs[i]?) arr (parts.map fun p => (p.1, a.eval p.2)) = some arr' ∧ CsR w c r arr' ∧ arr'.size = arr.size := by
  obtain ⟨p1, p2⟩ := places_some hp
  obtain ⟨e1, e2⟩ := evPs_sound hA ps
  refine fill_sound _ _ _ cells arr r (by rw [e1, p1]; simp) (fun i p q hi hj => ?_) hc h
  simp only [List.getElem?_map, Option.map_eq_some_iff] at hj
  obtain ⟨q', hq', rfl⟩ := hj
  have hil : i < ps.length := by rw [p1]; exact (List.getElem?_eq_some_iff.1 hq').1
  obtain ⟨g1, g2⟩ := e2 i p _ hi (List.getElem?_eq_getElem hil)
  obtain ⟨g3, g4⟩ := p2 i _ q' (List.getElem?_eq_getElem hil) hq'
  exact ⟨by rw [g1]; exact g3, by rw [← g4]; exact g2⟩
theorem fieldsOf_some (ht : t.Ok P) {ty : TypeId} {fs : List (Nat × Nat)} (h : fieldsOf t ty = some fs) :
    ∃ fields, P.underlying ty = some (.struct fields) ∧ fields.toList.mapM (fun f => (P.info? f.type).map fun i => (f.offset, i.size)) = some fs := by
  unfold fieldsOf at h
  split at h
  · rename_i fields hu
    refine ⟨fields, ht.und _ _ hu, ?_⟩
    clear hu
    generalize fields.toList = l at h
    induction l generalizing fs with
    | nil => injection h with h; subst h; rfl
    | cons f l ih =>
      obtain ⟨x, hx, h⟩ := ob_some (h : ob (ob (t.size f.type) fun s => some (f.offset, s)) (fun b => ob (mapO (fun g => ob (t.size g.type) fun s => some (g.offset, s)) l) fun l => some (b :: l)) = some fs)
      obtain ⟨l', hl, h⟩ := ob_some h
      injection h with h; subst h
      obtain ⟨s, hs, hx⟩ := ob_some hx
      injection hx with hx; subst hx
      obtain ⟨i, hi, hsz, _⟩ := ht.info _ _ hs
      simp [List.mapM_cons, hi, hsz, ih hl]
  · cases h

theorem fill_tabl {s : Nat} {place : Nat → Option (Nat × Nat)} (hp : ∀ (k : Nat) (p : Nat × Nat), place k = some p → p = (k * s, s)) {arr arr' : Array Value} {parts : List (Nat × Value)} (h : Instr.fill place arr parts = some arr') :
    Instr.fill (fun i => some (i * s, s)) arr parts = some arr' := by
  induction parts generalizing arr with
  | nil => exact h
  | cons q parts ih =>
    obtain ⟨qi, qv⟩ := q
    simp only [Instr.fill] at h ⊢
    cases hq : place qi with
    | none => rw [hq] at h; cases h
    | some p =>
      have := hp _ _ hq
      subst this
      rw [hq] at h
      simp only at h ⊢
      split at h
      · cases h
      · rename_i hc
        rw [if_neg hc]
        exact ih h
theorem build_sound (ht : t.Ok P) (hA : AR w c n kp R T a) {ty : TypeId} {parts : Array (Nat × Operand)} {x : AV} (h : (buildS t kp ty parts.toList).f R T = some x) :
    ∃ v, (Instr.build ty (parts.map fun p => (p.1, a.eval p.2))).run P w = .ok v w ∧ VR w c x v := by
  unfold buildS at h
  split at h
  · rename_i fields hu
    cases hf : fieldsOf t ty with
    | none => rw [hf] at h; cases h
    | some fs =>
      rw [hf] at h
      cases hz : t.zero ty with
      | none => rw [hz] at h; cases h
      | some zs =>
        rw [hz] at h
        cases hp : places fs parts.toList with
        | none =>
          change (sP (places _ parts.toList) fun ps => buildF kp zs ps).f R T = some x at h
          rw [hp] at h; cases h
        | some ps =>
          change (sP (places _ parts.toList) fun ps => buildF kp zs ps).f R T = some x at h
          rw [hp] at h
          obtain ⟨r, hr, h⟩ := ob_some (h : ob (fillA ((evPs kp ps).f R T) zs) aggC = some x)
          injection h with h; subst h
          obtain ⟨i, z, hi, hz', hcs, _, _⟩ := zero_CsR (w := w) (c := c) ht hz
          obtain ⟨arr', g1, g2, g3⟩ := parts_fill hA hp hcs hr
          obtain ⟨fields', hu', hm⟩ := fieldsOf_some ht hf
          refine ⟨.agg arr', run_build w ty _ arr' ?_, g2.agg⟩
          simp only [Program.built, hi, hu', hz', hm]
          simpa using g1
  · rename_i ln e hu
    cases hs : t.size e with
    | none => rw [hs] at h; cases h
    | some s =>
      rw [hs] at h
      cases hz : t.zero ty with
      | none => rw [hz] at h; cases h
      | some zs =>
        rw [hz] at h
        cases hp : places (tabl (fun i => (i * s, s)) ln 0) parts.toList with
        | none =>
          change (sP (places _ parts.toList) fun ps => buildF kp zs ps).f R T = some x at h
          rw [hp] at h; cases h
        | some ps =>
          change (sP (places _ parts.toList) fun ps => buildF kp zs ps).f R T = some x at h
          rw [hp] at h
          obtain ⟨r, hr, h⟩ := ob_some (h : ob (fillA ((evPs kp ps).f R T) zs) aggC = some x)
          injection h with h; subst h
          obtain ⟨i, z, hi, hz', hcs, _, _⟩ := zero_CsR (w := w) (c := c) ht hz
          obtain ⟨arr', g1, g2, g3⟩ := parts_fill hA hp hcs hr
          obtain ⟨ie, hie, hse, _⟩ := ht.info _ _ hs
          refine ⟨.agg arr', run_build w ty _ arr' ?_, g2.agg⟩
          simp only [Program.built, hi, ht.und _ _ hu, hz', hie]
          have hfs : ∀ (k : Nat) (p : Nat × Nat), (tabl (fun i => (i * s, s)) ln 0)[k]? = some p → p = (k * ie.size, ie.size) := fun k p hk => by
            rw [tabl_eq] at hk
            simp only [List.getElem?_map, Option.map_eq_some_iff] at hk
            obtain ⟨m, hm, rfl⟩ := hk
            have hml := (List.getElem?_eq_some_iff.1 hm).1
            rw [List.getElem?_range' (by simpa using hml)] at hm
            injection hm with hm
            rw [← hm, hse]; simp
          have := fill_tabl hfs g1
          simpa using this
  · cases h
end
end Go.Drip

/-
Operations that look at no memory: all of them.
-/
set_option linter.unusedVariables false
set_option linter.unusedSimpArgs false
namespace Go.Drip
section
variable {P : Program} {w : World} {c : Cx} {n : Nat} {kp : Kp} {R : Rl} {T : Tr AV} {a : Act} {t : Tab}

theorem sP_some {α : Type} {x : Option α} {f : α → Box P1} {r : AV} (h : (sP x f).f R T = some r) : ∃ y, x = some y ∧ (f y).f R T = some r := by cases x with | none => cases h | some y => exact ⟨y, rfl, h⟩

/-- What an operation that looks at no memory comes to. -/
def OpV (P : Program) (w : World) (c : Cx) (a : Act) (o : Oper) (x : AV) : Prop := ∃ v, (execOp a.eval o).run P w = .ok (.value v) w ∧ VR w c x v

def okNil : Value → Prop
  | .pointer none | .nilIface | .nilFunc => False
  | .func (.method _) _ _ => False
  | _ => True
theorem nilCheck_sound {x r : AV} {v : Value} (hv : VR w c x v) (h : nilCheckF x = some r) : r = x ∧ okNil v := by
  rcases onX_cases x with ⟨k, n, rfl⟩ | ⟨u, rfl⟩ | ⟨_, _, _, rfl⟩ | ⟨_, _, _, _, _, rfl⟩ | ⟨cs, rfl⟩ | ⟨u, rfl⟩
  · cases h
  · cases h
  · injection h with h; subst h; cases hv; exact ⟨rfl, trivial⟩
  · cases h
  · cases h
  · cases u with
    | ip cs => injection h with h; subst h; cases hv; exact ⟨rfl, trivial⟩
    | fn f a b =>
      obtain ⟨h1, h2⟩ := cnd_some (h : cnd (okFn f) _ none = some r)
      injection h2 with h2; subst h2
      refine ⟨rfl, ?_⟩
      cases hv with
      | fn _ _ _ fv cv hf => cases f <;> first | trivial | cases h1
      | yield l hl => trivial
    | _ => cases h

theorem addr_add (g o m : Nat) : (⟨g, o, none⟩ : Addr).add m = ⟨g, o + m, none⟩ := by unfold Addr.add; split <;> simp_all

theorem nilCheckOp_sound (hA : AR w c n kp R T a) {o : Oper} {x : Operand} (ho : o.op = .nilCheck x) {r : AV} (h : nilCheckF ((opd kp x).f R T) = some r) : OpV P w c a o r := by
  have hv := opd_sound hA x
  obtain ⟨rfl, hok⟩ := nilCheck_sound hv h
  refine ⟨a.eval x, ?_, hv⟩
  unfold execOp
  rw [ho]
  simp only
  generalize a.eval x = v at *
  cases v with
  | pointer A => cases A with | none => exact hok.elim | some _ => rfl
  | nilIface => exact hok.elim
  | nilFunc => exact hok.elim
  | func f x y => cases f <;> first | rfl | exact hok.elim
  | _ => rfl

theorem faddr_sound {o : Nat} {x r : AV} {v : Value} (hv : VR w c x v) (h : faddrF o x = some r) : ∃ A, v = .pointer (some A) ∧ VR w c r (.pointer (some (A.add o))) := by
  rcases onAddr_some h with ⟨b, i, k, rfl, h⟩ | ⟨cs, rfl, h⟩
  · injection h with h; subst h
    obtain ⟨rfl, hb⟩ := hv.inv_ptr
    refine ⟨_, rfl, ?_⟩
    rw [addr_add, Nat.add_assoc]
    exact .ptr b i (k + o) hb
  · injection h with h; subst h
    cases hv with
    | ip cs g p vals hs hc h1 hv =>
      refine ⟨_, rfl, ?_⟩
      rw [addr_add]
      simp only [drp_eq]
      exact .ip _ g (p + o) (fun j => vals (o + j)) (fun h => hs (by simp at h; omega)) (fun j hj => by simp at hj; rw [Nat.add_assoc]; exact hc _ (by omega)) (fun j hj => by simp at hj; exact h1 _ (by omega))
        (fun j u hu => by rw [List.getElem?_drop] at hu; exact hv _ u hu)

theorem num_val {x : AV} {v : Value} {k : IntKind} {i : Int} (hv : VR w c ⟨.num k i⟩ v) : v = .int k i := hv.inv_num

theorem iaddr_sound {s : Nat} {x i r : AV} {v iv : Value} {len : Nat} {base : Option Addr} {cap : Nat} (hs : v = .slice base len cap) (hv : VR w c x v) (hi : VR w c i iv) (h : iaddrF s x i = some r) :
    ∃ k m A, iv = .int k (Int.ofNat m) ∧ m < len ∧ base = some A ∧ VR w c r (.pointer (some (A.add (m * s)))) := by
  rcases onSl_some h with ⟨b, p, n, s', q, rfl, h⟩ | ⟨s', n, f, rfl, h⟩ | ⟨rfl, h⟩ | ⟨rfl, h⟩
  · obtain ⟨h1, h2⟩ := cnd_some h
    clear h
    obtain ⟨m, hm, h3⟩ := ob_some h2
    clear h2
    have := Nat.eq_of_beq_eq_true h1; subst this
    obtain ⟨k, rfl, hlt⟩ := idx_some hm
    injection h3 with h3; subst h3
    cases hv with
    | sl _ _ _ _ _ kk hb hss hn hc hr hk =>
      injection hs with e1 e2 e3
      subst e1; subst e2
      refine ⟨k, m, _, hi.inv_num, hlt, rfl, ?_⟩
      rw [addr_add]
      have := VR.ptr (w := w) (c := c) b (p + m) 0 hb
      rw [Nat.add_zero, Nat.add_mul, ← hss] at this
      rw [hss] at this ⊢
      rw [Nat.add_assoc]
      rw [← hss] at this ⊢
      exact this
    | sl0 => omega
  · obtain ⟨h1, h2⟩ := cnd_some h
    clear h
    obtain ⟨m, hm, h3⟩ := ob_some h2
    clear h2
    have := Nat.eq_of_beq_eq_true h1; subst this
    obtain ⟨k, rfl, hlt⟩ := idx_some hm
    injection h3 with h3; subst h3
    cases hv with
    | imm sz n f g o kk vals hk hss hl hc h1' hv' =>
      injection hs with e1 e2 e3
      subst e1; subst e2
      refine ⟨k, m, _, hi.inv_num, hlt, rfl, ?_⟩
      rw [addr_add]
      have hlm := hl m hlt
      exact .ip _ g (o + m * s) (vals m) (fun h => hss (by omega) (by omega)) (fun j hj => by rw [Nat.add_assoc]; exact hc m j hlt (by omega)) (fun j hj => h1' m j hlt (by omega)) (fun j u hu => hv' m j u hlt hu)
    | immz => omega
  · cases h
  · cases h

theorem iaddrArr_sound {len s : Nat} {x i r : AV} {v iv : Value} (hv : VR w c x v) (hi : VR w c i iv) (h : iaddrArrF len s x i = some r) :
    ∃ k m A, iv = .int k (Int.ofNat m) ∧ m < len ∧ v = .pointer (some A) ∧ VR w c r (.pointer (some (A.add (m * s)))) := by
  obtain ⟨m, hm, h2⟩ := ob_some h
  obtain ⟨k, hk, hlt⟩ := idx_some hm
  subst hk
  obtain ⟨A, hA, hr⟩ := faddr_sound (o := m * s) hv h2
  exact ⟨k, m, A, hi.inv_num, hlt, hA, hr⟩

theorem fieldOf_some (ht : t.Ok P) {s : TypeId} {f : Nat} {g : Field} (h : fieldOf t s f = some g) : ∃ fs : Array Field, P.underlying s = some (.struct fs) ∧ fs[f]? = some g := by
  unfold fieldOf at h
  split at h
  · rename_i fs hu
    exact ⟨fs, ht.und _ _ hu, by simpa using h⟩
  · cases h

theorem fieldAddr_sound (ht : t.Ok P) (hA : AR w c n kp R T a) {o : Oper} {s : TypeId} {x : Operand} {f : Nat} (ho : o.op = .fieldAddr s x f) {r : AV} (h : (fieldAddrS t kp s f x).f R T = some r) : OpV P w c a o r := by
  obtain ⟨g, hg, h⟩ := sP_some h
  obtain ⟨m, hm, h⟩ := sP_some h
  obtain ⟨fs, hu, hf⟩ := fieldOf_some ht hg
  obtain ⟨i, hi, hs, _⟩ := ht.info _ _ hm
  cases m with
  | zero => cases h
  | succ m =>
    obtain ⟨A, hA', hr⟩ := faddr_sound (opd_sound hA x) (h : faddrF g.offset ((opd kp x).f R T) = some r)
    refine ⟨_, ?_, hr⟩
    unfold execOp
    rw [ho]
    simp [Instr.fieldAt, run_und w hu, hf, hA', Instr.sureAddr, fieldPlace, run_size w hi, hs]

theorem indexAddr_sound (ht : t.Ok P) (hA : AR w c n kp R T a) {o : Oper} {ty : TypeId} {x i : Operand} (ho : o.op = .indexAddr ty x i) {r : AV} (h : (indexAddrS t kp ty x i).f R T = some r) : OpV P w c a o r := by
  unfold indexAddrS at h
  have hx := opd_sound hA x
  have hi := opd_sound hA i
  split at h
  · rename_i e hu
    obtain ⟨s, hs, h⟩ := sP_some h
    obtain ⟨ie, hie, hse, _⟩ := ht.info _ _ hs
    change iaddrF s ((opd kp x).f R T) ((opd kp i).f R T) = some r at h
    have hsl : ∃ base len cap, a.eval x = .slice base len cap := by
      rcases onSl_some h with ⟨b, p, n, s', q, e, _⟩ | ⟨s', n, f, e, _⟩ | ⟨e, h⟩ | ⟨e, h⟩
      · rw [e] at hx; generalize a.eval x = v at *; cases hx <;> exact ⟨_, _, _, rfl⟩
      · rw [e] at hx; generalize a.eval x = v at *; cases hx <;> exact ⟨_, _, _, rfl⟩
      · cases h
      · cases h
    obtain ⟨base, len, cap, hsl⟩ := hsl
    obtain ⟨k, m, A, e1, e2, e3, hr⟩ := iaddr_sound hsl hx hi h
    subst e3
    refine ⟨_, ?_, hr⟩
    unfold execOp
    rw [ho]
    have hlt : (m : Int) < len := by omega
    simp [Instr.indexAt, asIntOf, e1, hsl, run_und w (ht.und _ _ hu), e2, run_size w hie, hse]
  · rename_i ln e hu
    obtain ⟨s, hs, h⟩ := sP_some h
    obtain ⟨ie, hie, hse, _⟩ := ht.info _ _ hs
    obtain ⟨k, m, A, e1, e2, e3, hr⟩ := iaddrArr_sound hx hi (h : iaddrArrF ln s ((opd kp x).f R T) ((opd kp i).f R T) = some r)
    refine ⟨_, ?_, hr⟩
    unfold execOp
    rw [ho]
    simp [Instr.indexAt, asIntOf, e1, e3, Instr.sureAddr, run_und w (ht.und _ _ hu), e2, run_size w hie, hse]
  · cases h

theorem field_sound (ht : t.Ok P) (hA : AR w c n kp R T a) {o : Oper} {xt : TypeId} {x : Operand} {f : Nat} (ho : o.op = .field xt x f) {r : AV} (h : (opPure t kp (.field xt x f)).f R T = some r) : OpV P w c a o r := by
  obtain ⟨g, hg, h⟩ := sP_some h
  obtain ⟨s, hs, h⟩ := sP_some h
  obtain ⟨fs, hu, hf⟩ := fieldOf_some ht hg
  obtain ⟨d, i, hd, hi, rfl⟩ := aggSize_some ht hs
  obtain ⟨cs, e, h⟩ := onAgg_some (h : ((opd kp x).f R T).onAgg none _ = some r)
  have hx := opd_sound hA x
  rw [e] at hx
  obtain ⟨vs, hvs, l1, o1, v1⟩ := hx.inv_agg
  obtain ⟨v, hv, hr, _⟩ := part_sound (P := P) hd hi (by omega) (fun j v _ hj => o1 j v hj) v1 h
  refine ⟨v, ?_, hr⟩
  unfold execOp
  rw [ho]
  simp [Instr.field, run_und w hu, hf, hvs, asAgg, hv]

theorem index_sound (ht : t.Ok P) (hA : AR w c n kp R T a) {o : Oper} {xt : TypeId} {x i : Operand} (ho : o.op = .index xt x i) {r : AV} (h : (indexS t kp xt x i).f R T = some r) : OpV P w c a o r := by
  unfold indexS at h
  have hx := opd_sound hA x
  have hi := opd_sound hA i
  split at h
  · rename_i ln e hu
    obtain ⟨s, hs, h⟩ := sP_some h
    obtain ⟨d, ie, hd, hie, rfl⟩ := aggSize_some ht hs
    obtain ⟨cs, e1, h⟩ := onAgg_some (h : ((opd kp x).f R T).onAgg none _ = some r)
    obtain ⟨m, hm, h⟩ := ob_some h
    obtain ⟨k, e2, hlt⟩ := idx_some hm
    rw [e1] at hx
    rw [e2] at hi
    obtain ⟨vs, hvs, l1, o1, v1⟩ := hx.inv_agg
    obtain ⟨v, hv, hr, _⟩ := part_sound (P := P) hd hie (by omega) (fun j v _ hj => o1 j v hj) v1 h
    refine ⟨v, ?_, hr⟩
    unfold execOp
    rw [ho]
    have hi' := hi.inv_num
    change (part e vs (m * ie.size)).run P w = _ at hv
    simp [Instr.index, asIntOf, hi', hvs, run_und w (ht.und _ _ hu), hlt, run_size w hie, hv]
  · rename_i hu
    obtain ⟨s, e1, h⟩ := onStr_some (h : ((opd kp x).f R T).onStr none _ = some r)
    obtain ⟨m, hm, h⟩ := ob_some h
    obtain ⟨k, e2⟩ := natOf_some hm
    obtain ⟨ch, hch, h⟩ := ob_some h
    injection h with h; subst h
    rw [e1] at hx
    rw [e2] at hi
    obtain ⟨u, hu', rfl⟩ := hx.inv_str
    have hi' := hi.inv_num
    simp only [nth_eq] at hch
    refine ⟨.int .u8 (Int.ofNat ch.toNat), ?_, .num _ _⟩
    unfold execOp
    rw [ho]
    have hget : u[m]? = some ch := by
      have hl := (List.getElem?_eq_some_iff.1 hch)
      obtain ⟨hl, he⟩ := hl
      have hl' : m < u.size := by simpa using hl
      rw [getElem?_pos u m hl']
      congr 1
    simp [Instr.index, asIntOf, hi', hu', run_und w (ht.und _ _ hu), hget]
  · cases h
end
end Go.Drip

/-
Operations that look at no memory: all of them, as one.
-/
set_option linter.unusedVariables false
set_option linter.unusedSimpArgs false
namespace Go.Drip
section
variable {P : Program} {w : World} {c : Cx} {n : Nat} {kp : Kp} {R : Rl} {T : Tr AV} {a : Act} {t : Tab}

theorem pick_sound (hA : AR w c n kp R T a) {o : Oper} {x y z : Operand} (ho : o.op = .pick x y z) {r : AV} (h : pickF kp x y z R T = some r) : OpV P w c a o r := by
  obtain ⟨b, e, h2⟩ := onBool_some h
  injection h2 with h2
  have hx := opd_sound hA x
  rw [e] at hx
  have hx' := hx.inv_bool
  refine ⟨if b then a.eval y else a.eval z, ?_, ?_⟩
  · unfold execOp; rw [ho]; simp [hx', asBool]
  · rw [← h2]; cases b <;> exact opd_sound hA _

theorem un_sound (hA : AR w c n kp R T a) {o : Oper} {op : UnOp} {ty : TypeId} {x : Operand} (ho : o.op = .unOp op ty x) {r : AV} (h : (unF op).f ((opd kp x).f R T) = some r) : OpV P w c a o r := by
  have hx := opd_sound hA x
  cases op with
  | not =>
    obtain ⟨b, e, h2⟩ := onBool_some h
    injection h2 with h2; subst h2
    rw [e] at hx
    refine ⟨.bool (!b), ?_, by rw [not'_eq]; exact .bool _⟩
    unfold execOp; rw [ho]; simp [hx.inv_bool, Op.unary]
  | neg =>
    obtain ⟨k, m, e, h2⟩ := onNum_some h
    injection h2 with h2; subst h2
    rw [e] at hx
    refine ⟨.int k (k.wrap (0 - m)), ?_, by rw [wrapF_eq, subF_eq]; exact .num _ _⟩
    unfold execOp; rw [ho]; simp [hx.inv_num, Op.unary, Op.intArith]
  | xor => cases h
  | plus => cases h

theorem conv_sound (ht : t.Ok P) (hA : AR w c n kp R T a) {o : Oper} {src dst : TypeId} {x : Operand} (ho : o.op = .convert src dst x) {r : AV} (h : (convS t kp src dst x).f R T = some r) : OpV P w c a o r := by
  obtain ⟨ds, hs, h1⟩ := sP_some h
  obtain ⟨d, hd, h2⟩ := sP_some h1
  have hx := opd_sound hA x
  have hs' := ht.und _ _ hs
  have hd' := ht.und _ _ hd
  change (convF d).f ((opd kp x).f R T) = some r at h2
  cases d with
  | int k =>
    obtain ⟨j, m, e, h3⟩ := onNum_some (h2 : ((opd kp x).f R T).onNum none _ = some r)
    injection h3 with h3; subst h3
    rw [e] at hx
    refine ⟨.int k (k.wrap m), ?_, by rw [wrapF_eq]; exact .num _ _⟩
    unfold execOp; rw [ho]; simp only [Sem.run_bind, convert, run_und w hs', run_und w hd', Result.andThen_ok, hx.inv_num]
    cases ds <;> simp [Conv.intToInt]
  | string =>
    obtain ⟨s, e, h3⟩ := onStr_some (h2 : ((opd kp x).f R T).onStr none _ = some r)
    injection h3 with h3; subst h3
    rw [e] at hx
    obtain ⟨u, hu, rfl⟩ := hx.inv_str
    refine ⟨.string u, ?_, .str u⟩
    unfold execOp; rw [ho]; simp only [Sem.run_bind, convert, run_und w hs', run_und w hd', Result.andThen_ok, hu]
    cases ds <;> simp
  | _ => cases h2

theorem makeFunc_sound (hA : AR w c n kp R T a) {o : Oper} {f : FuncId} {x y : Array Operand} (ho : o.op = .makeFunc (.func f) x y) {r : AV} (h : (opPure t kp (.makeFunc (.func f) x y)).f R T = some r) : OpV P w c a o r := by
  injection h with h; subst h
  obtain ⟨l1, h1⟩ := evs_sound hA x.toList
  obtain ⟨l2, h2⟩ := evs_sound hA y.toList
  refine ⟨.func (.func f) (x.map a.eval) (y.map a.eval), ?_, .fn _ _ _ _ _ (by intro l hl; cases hl) (by rw [l1]; simp) (by rw [l2]; simp) (fun i u v hu hv => h1 i u v hu (by simpa using hv)) (fun i u v hu hv => h2 i u v hu (by simpa using hv))⟩
  unfold execOp; rw [ho]; simp [Instr.makeFunc]

theorem extract_sound (hA : AR w c n kp R T a) {o : Oper} {x : Operand} {i : Nat} (ho : o.op = .extract x i) {r : AV} (h : extractF i ((opd kp x).f R T) = some r) : OpV P w c a o r := by
  obtain ⟨vs, e, h2⟩ := onTup_some h
  have hx := opd_sound hA x
  rw [e] at hx
  obtain ⟨ws, hw, hl, hv⟩ := hx.inv_tup
  simp only [nth_eq] at h2
  have hil : i < ws.size := by have := (List.getElem?_eq_some_iff.1 h2).1; omega
  refine ⟨ws[i], ?_, hv i r _ h2 (Array.getElem?_eq_getElem hil)⟩
  unfold execOp; rw [ho]; simp [Instr.extract, hw, Array.getElem?_eq_getElem hil]

theorem call_builtin {o : Oper} {cl : Call} {b : Builtin} (ho : o.op = .call cl) (hb : cl.callee = .builtin b) (w : World) :
    (execOp a.eval o).run P w = (builtin b cl.argTypes o.type (cl.args.map fun | .const _ => true | _ => false) (cl.args.map a.eval)).run P w := by
  unfold execOp; rw [ho]; simp [resolve, hb, invoke]; rfl

theorem cap_sound (ht : t.Ok P) (hA : AR w c n kp R T a) {o : Oper} {cl : Call} (ho : o.op = .call cl) (hb : cl.callee = .builtin .cap) {x : Operand} (hx : cl.args.toList = [x]) {ty : TypeId} {d : TypeId} (hty : cl.argTypes.toList = [ty]) (hd : P.underlying ty = some (.slice d)) {r : AV}
    (h : capF ((opd kp x).f R T) = some r) : OpV P w c a o r := by
  have hv := opd_sound hA x
  have e1 : cl.args = #[x] := by rw [← Array.toArray_toList (xs := cl.args), hx]
  have e2 : cl.argTypes = #[ty] := by rw [← Array.toArray_toList (xs := cl.argTypes), hty]
  have key : ∀ (A : Option Addr) (m k : Nat), a.eval x = .slice A m k → (execOp a.eval o).run P w = .ok (.value (.int .i64 k)) w := fun A m k e => by
    rw [call_builtin ho hb, e1, e2]
    simp [builtin, Builtin.cap_, run_und w hd, e, goInt]
  rcases onSl_some h with ⟨b, p, n, s', q, e, h2⟩ | ⟨s', n, f, e, h2⟩ | ⟨e, h2⟩ | ⟨e, h2⟩
  · obtain ⟨m, rfl, h3⟩ := ob_some h2
    injection h3 with h3; subst h3
    rw [e] at hv
    generalize hg : a.eval x = v at *
    cases hv with
    | sl _ _ _ _ _ kk hb' hss hn hc hr hk => exact ⟨_, key _ _ _ rfl, by rw [hc m rfl]; exact .num _ _⟩
  · cases h2
  · injection h2 with h2; subst h2
    rw [e] at hv
    generalize hg : a.eval x = v at *
    cases hv; exact ⟨_, key _ _ _ rfl, .num _ _⟩
  · injection h2 with h2; subst h2
    rw [e] at hv
    generalize hg : a.eval x = v at *
    cases hv; exact ⟨_, key _ _ _ rfl, .num _ _⟩

theorem max_sound (hA : AR w c n kp R T a) {o : Oper} {cl : Call} (ho : o.op = .call cl) (hb : cl.callee = .builtin .max) {x y : Operand} (hx : cl.args.toList = [x, y]) {r : AV}
    (h : maxF ((opd kp x).f R T) ((opd kp y).f R T) = some r) : OpV P w c a o r := by
  have e1 : cl.args = #[x, y] := by rw [← Array.toArray_toList (xs := cl.args), hx]
  obtain ⟨k, m, e2, h2⟩ := onNum_some h
  obtain ⟨j, m', e3, h3⟩ := onNum_some h2
  obtain ⟨hk, h4⟩ := cnd_some h3
  injection h4 with h4; subst h4
  have v1 := opd_sound hA x
  have v2 := opd_sound hA y
  rw [e2] at v1; rw [e3] at v2
  refine ⟨.int k (if m' > m then m' else m), ?_, ?_⟩
  · rw [call_builtin ho hb, e1]
    simp [builtin, v1.inv_num, v2.inv_num, run_max_int2]
  · rw [cnd_eq, intLt_eq]
    simp only [decide_eq_true_eq]
    exact .num _ _
theorem min_sound (hA : AR w c n kp R T a) {o : Oper} {cl : Call} (ho : o.op = .call cl) (hb : cl.callee = .builtin .min) {x y : Operand} (hx : cl.args.toList = [x, y]) {r : AV}
    (h : minF ((opd kp x).f R T) ((opd kp y).f R T) = some r) : OpV P w c a o r := by
  have e1 : cl.args = #[x, y] := by rw [← Array.toArray_toList (xs := cl.args), hx]
  obtain ⟨k, m, e2, h2⟩ := onNum_some h
  obtain ⟨j, m', e3, h3⟩ := onNum_some h2
  obtain ⟨hk, h4⟩ := cnd_some h3
  injection h4 with h4; subst h4
  have v1 := opd_sound hA x
  have v2 := opd_sound hA y
  rw [e2] at v1; rw [e3] at v2
  refine ⟨.int k (if m' < m then m' else m), ?_, ?_⟩
  · rw [call_builtin ho hb, e1]
    simp [builtin, v1.inv_num, v2.inv_num, run_min_int2]
  · rw [cnd_eq, intLt_eq]
    simp only [decide_eq_true_eq]
    exact .num _ _

theorem opPure_sound (ht : t.Ok P) (hA : AR w c n kp R T a) {o : Oper} {r : AV} (h : (opPure t kp o.op).f R T = some r) : OpV P w c a o r := by
  cases ho : o.op with
  | move x => rw [ho] at h; injection h with h; subst h; exact ⟨_, by unfold execOp; rw [ho]; rfl, opd_sound hA x⟩
  | assign x => rw [ho] at h; injection h with h; subst h; exact ⟨_, by unfold execOp; rw [ho]; rfl, opd_sound hA x⟩
  | pick x y z => rw [ho] at h; exact pick_sound hA ho h
  | build ty parts =>
    rw [ho] at h
    obtain ⟨v, hv, hr⟩ := build_sound ht hA h
    refine ⟨v, ?_, hr⟩
    unfold execOp; rw [ho]; simp [hv]
  | nilCheck x => rw [ho] at h; exact nilCheckOp_sound hA ho h
  | binOp op xt x y yt =>
    rw [ho] at h
    obtain ⟨d, hd, h2⟩ := sP_some h
    obtain ⟨v, hv, hr⟩ := binA_sound ht (ht.und _ _ hd) (opd_sound hA x) (opd_sound hA y) h2 x y
    refine ⟨v, ?_, hr⟩
    unfold execOp; rw [ho]
    simp only [Sem.run_bind] at hv ⊢
    rw [hv]; rfl
  | unOp op ty x => rw [ho] at h; exact un_sound hA ho h
  | convert src dst x => rw [ho] at h; exact conv_sound ht hA ho h
  | makeFunc f x y =>
    rw [ho] at h
    cases f with
    | func g => exact makeFunc_sound hA ho h
    | _ => cases h
  | fieldAddr s x f => rw [ho] at h; exact fieldAddr_sound ht hA ho h
  | indexAddr ty x i => rw [ho] at h; exact indexAddr_sound ht hA ho h
  | field xt x f => rw [ho] at h; exact field_sound ht hA ho h
  | index xt x i => rw [ho] at h; exact index_sound ht hA ho h
  | extract x i => rw [ho] at h; exact extract_sound hA ho h
  | call cl =>
    rw [ho] at h
    cases hc : cl.callee with
    | value f => simp only [opPure, hc] at h; cases h
    | invoke x m => simp only [opPure, hc] at h; cases h
    | builtin b =>
      simp only [opPure, hc] at h
      unfold builtinS at h
      split at h
      · rename_i ty x hty hx
        split at h
        · rename_i d hd
          exact cap_sound ht hA ho hc hx hty (ht.und _ _ hd) h
        · cases h
      · rename_i x y hx
        exact max_sound hA ho hc hx h
      · rename_i x y hx
        exact min_sound hA ho hc hx h
      · cases h
  | _ => rw [ho] at h; cases h
end
end Go.Drip

/-
Operations that read memory.
-/
set_option linter.unusedVariables false
set_option linter.unusedSimpArgs false
namespace Go.Drip
section
variable {P : Program} {w : World} {c : Cx} {n : Nat} {kp : Kp} {R : Rl} {T : Tr AV} {a : Act} {t : Tab} {kps : FuncId → Kp} {H : AH}

/-- Cells of memory from a place on stand for cells. -/
def MemR (w : World) (c : Cx) (g o : Nat) (cs : List AV) : Prop := ∀ (j : Nat) (u : AV), cs[j]? = some u → ∃ v, w.cell? ⟨g, o + j, none⟩ = some v ∧ VR w c u v ∧ v.oneCell' = true

theorem loadVar_sound {ty : TypeId} {d : TypeDesc} {i : TypeInfo} (hd : P.underlying ty = some d) (hi : P.info? ty = some i) {g o k : Nat} {cs : List AV} {x : AV} (hm : MemR w c g o cs)
    (h : (partA (isAggD d, i.size)).f cs k = some x) : ∃ v, (loadVar ty ⟨g, o + k, none⟩).run P w = .ok v w ∧ VR w c x v ∧ ((isAggD d = false ∧ v.oneCell' = true) ∨ (isAggD d = true ∧ ∃ ws ys, x = ⟨.agg ys⟩ ∧ v = .agg ws ∧ ws.size = i.size)) := by
  let f : Nat → Value := fun j => (w.cell? ⟨g, o + j, none⟩).getD undef
  let vs : Array Value := ((List.range cs.length).map f).toArray
  have hvs : ∀ (j : Nat) (v : Value), vs[j]? = some v → j < cs.length ∧ w.cell? ⟨g, o + j, none⟩ = some v ∧ v.oneCell' = true ∧ ∀ u, cs[j]? = some u → VR w c u v := fun j v hj => by
    have hlt : j < cs.length := by have := (Array.getElem?_eq_some_iff.1 hj).1; simpa [vs] using this
    obtain ⟨v', h1, h2, h3⟩ := hm j _ (List.getElem?_eq_getElem hlt)
    have : v = v' := by
      have : vs[j]? = some (f j) := by simp [vs, hlt]
      rw [hj] at this; injection this with this
      rw [this]; simp [f, h1]
    subst this
    exact ⟨hlt, h1, h3, fun u hu => by rw [List.getElem?_eq_getElem hlt] at hu; injection hu with hu; subst hu; exact h2⟩
  have hsz : vs.size = cs.length := by simp [vs]
  obtain ⟨v, hv, hr, hk⟩ := part_sound (P := P) hd hi (vs := vs) (by omega) (fun j v _ hj => (hvs j v hj).2.2.1) (fun j u v hu hj => (hvs j v hj).2.2.2 u hu) h
  refine ⟨v, ?_, hr, hk⟩
  unfold loadVar
  unfold part at hv
  simp only [Sem.run_bind, run_isAgg w hd, Result.andThen_ok] at hv ⊢
  rcases hk with ⟨hagg, h1⟩ | ⟨hagg, ws, ys, hx, hvw, hwn⟩
  · simp only [hagg, Bool.false_eq_true, if_false] at hv ⊢
    cases hvo : vs[k]? with
    | none => rw [hvo] at hv; simp at hv
    | some u =>
      rw [hvo] at hv
      simp at hv
      subst hv
      rw [run_load, (hvs k _ hvo).2.1]
  · simp only [hagg, if_true, Sem.run_bind, run_size w hi, Result.andThen_ok, Sem.run_pure] at hv ⊢
    injection hv with hv
    subst hvw
    injection hv with hv
    have hle : ∀ j, j < i.size → k + j < cs.length := fun j hj => by
      have : (vs.extract k (k + i.size)).size = i.size := by rw [hv]; exact hwn
      simp at this; omega
    rw [run_loadCells w ⟨g, o + k, none⟩ i.size (fun j => f (k + j)) (fun j hj => by
      rw [addr_add]
      obtain ⟨v', h1, _⟩ := hm (k + j) _ (List.getElem?_eq_getElem (hle j hj))
      rw [Nat.add_assoc, h1]
      simp [f, h1])]
    simp only [Result.andThen_ok, Sem.run_pure]
    congr 2
    rw [← hv]
    have hsz2 : (vs.extract k (k + i.size)).size = i.size := by rw [hv]; exact hwn
    apply Array.ext_getElem?
    intro j
    by_cases hj : j < i.size
    · have h1 : vs[k + j]? = some (f (k + j)) := by simp [vs, hle j hj]
      rw [Array.getElem?_extract, if_pos (by simp at hsz2; omega), h1]
      simp [hj]
    · rw [Array.getElem?_eq_none (by simp; omega), Array.getElem?_eq_none (by omega)]

theorem HR.rows (hh : HR kps w c H) {b : Nat} {rows : List (List AV)} (hb : c.D b) (h : cellsOf (H.get b) = some rows) :
    ∃ arr e, w.heap[c.blk b]? = some (.cells arr e (0, 0)) ∧ arr.size = c.cells b ∧ rows.length = c.rows b ∧ c.off b + rows.length * c.sz b ≤ arr.size ∧
      ∀ (r : Nat) (row : List AV), rows[r]? = some row → row.length = c.sz b ∧ MemR w c (c.blk b) (c.off b + r * c.sz b) row := by
  obtain ⟨x, hx, h⟩ := ob_some h
  cases x with
  | cells e sz rows' =>
    injection h with h; subst h
    obtain ⟨rfl, h2, arr, e', h3, h4, h5, h6⟩ := hh.blk b _ hb hx
    refine ⟨arr, e', h3, h4, h2, h5, fun r row hr => ?_⟩
    obtain ⟨h7, h8⟩ := h6 r row hr
    refine ⟨h7, fun j u hu => ?_⟩
    obtain ⟨v, g1, g2, g3⟩ := h8 j u hu
    exact ⟨v, by simp only [World.cell?, h3]; simpa using g1, g2, g3⟩
  | map es => cases h
  | loop => cases h
theorem sR_some {α : Type} {x : Option α} {f : α → Box PR} {r : AV} (h : (sR x f).f R T H = some r) : ∃ y, x = some y ∧ (f y).f R T H = some r := by cases x with | none => cases h | some y => exact ⟨y, rfl, h⟩

theorem loadF_sound (hh : HR kps w c H) {ty : TypeId} {d : TypeDesc} {i : TypeInfo} (hd : P.underlying ty = some d) (hi : P.info? ty = some i) {x r : AV} {v : Value} (hv : VR w c x v) (h : loadF (partA (isAggD d, i.size)).f x H = some r) :
    ∃ A u, v = .pointer (some A) ∧ (loadVar ty A).run P w = .ok u w ∧ VR w c r u ∧ ((isAggD d = false ∧ u.oneCell' = true) ∨ (isAggD d = true ∧ ∃ ws ys, r = ⟨.agg ys⟩ ∧ u = .agg ws ∧ ws.size = i.size)) := by
  rcases onAddr_some h with ⟨b, p, k, rfl, h2⟩ | ⟨cs, rfl, h2⟩
  · obtain ⟨rfl, hb⟩ := hv.inv_ptr
    obtain ⟨rows, hrows, h3⟩ := ob_some h2
    obtain ⟨row, hrow, h4⟩ := ob_some h3
    simp only [nth_eq] at hrow
    obtain ⟨arr, e, h5, h6, h7, h8, h9⟩ := hh.rows hb hrows
    obtain ⟨_, hm⟩ := h9 p row hrow
    obtain ⟨u, hu, hr, hk⟩ := loadVar_sound hd hi hm h4
    exact ⟨_, u, rfl, hu, hr, hk⟩
  · cases hv with
    | ip cs g o vals hs hc h1 hv =>
      have hm : MemR w c g o cs := fun j u hu => by
        have hj := (List.getElem?_eq_some_iff.1 hu).1
        exact ⟨vals j, hc j hj, hv j u hu, h1 j hj⟩
      obtain ⟨u, hu, hr, hk⟩ := loadVar_sound hd hi hm h2
      exact ⟨_, u, rfl, by simpa using hu, hr, hk⟩

theorem load_sound (ht : t.Ok P) (hh : HR kps w c H) (hA : AR w c n kp R T a) {o : Oper} {ty : TypeId} {x : Operand} (ho : o.op = .load ty x) {r : AV} (h : (opRead t kp (.load ty x)).f R T H = some r) : OpV P w c a o r := by
  obtain ⟨s, hs, h2⟩ := sR_some h
  obtain ⟨d, i, hd, hi, rfl⟩ := aggSize_some ht hs
  obtain ⟨A, u, e, hu, hr, _⟩ := loadF_sound hh hd hi (opd_sound hA x) (h2 : loadF _ _ _ = some r)
  refine ⟨u, ?_, hr⟩
  unfold execOp; rw [ho]; simp [Instr.loadAt, Instr.sureAddr, e, hu]

/-! ### Maps -/
theorem HR.map (hh : HR kps w c H) {b : Nat} {es : List (AV × AV)} (hb : c.D b) (h : mapOf (H.get b) = some es) :
    ∃ ents clock, w.heap[c.blk b]? = some (.map ents clock) ∧ es.length = ents.size ∧ ∀ (i : Nat) (p : AV × AV) (e : MapEntry), es[i]? = some p → ents[i]? = some e → VR w c p.1 e.key ∧ VR w c p.2 e.val := by
  obtain ⟨x, hx, h⟩ := ob_some h
  cases x with
  | cells e sz rows' => cases h
  | map es' => injection h with h; subst h; exact hh.blk b _ hb hx
  | loop => cases h

theorem onMp_inv {b : Nat} {v : Value} (h : VR w c ⟨.x (.mp b)⟩ v) : v = .map (some (c.blk b)) ∧ c.D b := by cases h; exact ⟨rfl, ‹_›⟩

theorem len_sound (ht : t.Ok P) (hh : HR kps w c H) (hA : AR w c n kp R T a) {o : Oper} {cl : Call} (ho : o.op = .call cl) (hb : cl.callee = .builtin .len) {x : Operand} (hx : cl.args.toList = [x]) {ty : TypeId} (hty : cl.argTypes.toList = [ty]) {d : TypeDesc} (hd : P.underlying ty = some d)
    {r : AV} (h : (lenD d).f ((opd kp x).f R T) H = some r) : OpV P w c a o r := by
  have hv := opd_sound hA x
  have e1 : cl.args = #[x] := by rw [← Array.toArray_toList (xs := cl.args), hx]
  have e2 : cl.argTypes = #[ty] := by rw [← Array.toArray_toList (xs := cl.argTypes), hty]
  have hrun : ∀ v, (Builtin.len_ #[ty] o.type #[a.eval x]).run P w = .ok v w → (execOp a.eval o).run P w = .ok (.value v) w := fun v hv => by
    rw [call_builtin ho hb, e1, e2]
    simp [builtin, hv]
  generalize a.eval x = y at *
  cases d with
  | string =>
    obtain ⟨s, e, h2⟩ := onStr_some (h : ((opd kp x).f R T).onStr none _ = some r)
    injection h2 with h2; subst h2
    rw [e] at hv
    obtain ⟨u, rfl, rfl⟩ := hv.inv_str
    refine ⟨.int .i64 (u.data.toList.length : Nat), hrun _ ?_, by rw [len_eq]; exact .num _ _⟩
    simp [Builtin.len_, run_und w hd, goInt]
  | slice e =>
    have key : ∀ (A : Option Addr) (n k : Nat), (Builtin.len_ #[ty] o.type #[.slice A n k]).run P w = .ok (.int .i64 (n : Nat)) w := fun A n k => by simp [Builtin.len_, run_und w hd, goInt]
    rcases onSl_some (h : ((opd kp x).f R T).onSl none _ _ _ _ = some r) with ⟨b, p, n, s', q, e, h2⟩ | ⟨s', n, f, e, h2⟩ | ⟨e, h2⟩ | ⟨e, h2⟩ <;>
    · injection h2 with h2; subst h2
      rw [e] at hv
      cases hv <;> exact ⟨_, hrun _ (key _ _ _), .num _ _⟩
  | map kt e =>
    obtain ⟨b, e, h2⟩ := onMp_some (h : ((opd kp x).f R T).onMp none _ = some r)
    obtain ⟨es, hes, h3⟩ := ob_some h2
    injection h3 with h3; subst h3
    rw [e] at hv
    obtain ⟨rfl, hb'⟩ := onMp_inv hv
    obtain ⟨ents, clock, g1, g2, _⟩ := hh.map hb' hes
    refine ⟨.int .i64 (ents.size : Nat), hrun _ ?_, by rw [len_eq, g2]; exact .num _ _⟩
    simp [Builtin.len_, run_und w hd, goInt, getObj, Sem.run, g1]
  | _ => cases h
end
end Go.Drip

/-
Maps: what is found.
-/
set_option linter.unusedVariables false
set_option linter.unusedSimpArgs false
namespace Go.Drip
open Go.MapKept
section
variable {P : Program} {w : World} {c : Cx} {n : Nat} {kp : Kp} {R : Rl} {T : Tr AV} {a : Act} {t : Tab} {kps : FuncId → Kp} {H : AH}

/-- Where a key is found. -/
def findI (eq : KeyF) (k : AV) : List (AV × AV) → Option (Option Nat)
  | [] => some none
  | e :: es => match eq k e.1 with
    | none => none
    | some true => some (some 0)
    | some false => match findI eq k es with
      | none => none
      | some r => some (r.map (· + 1))

theorem findA_I {eq : KeyF} {k : AV} {es : List (AV × AV)} {r : Option AV} (h : findA eq k es = some r) :
    ∃ q, findI eq k es = some q ∧ ((q = none ∧ r = none) ∨ ∃ j p, q = some j ∧ es[j]? = some p ∧ r = some p.2) := by
  induction es with
  | nil => injection h with h; exact ⟨none, rfl, .inl ⟨rfl, h.symm⟩⟩
  | cons e es ih =>
    obtain ⟨b, hb, h2⟩ := ob_some (h : ob (eq k e.1) _ = some r)
    cases b with
    | true => injection h2 with h2; exact ⟨some 0, by simp [findI, hb], .inr ⟨0, e, rfl, rfl, h2.symm⟩⟩
    | false =>
      obtain ⟨q, hq, hr⟩ := ih h2
      refine ⟨q.map (· + 1), by simp [findI, hb, hq], ?_⟩
      rcases hr with ⟨rfl, rfl⟩ | ⟨j, p, rfl, h3, rfl⟩
      · exact .inl ⟨rfl, rfl⟩
      · exact .inr ⟨j + 1, p, rfl, by simpa using h3, rfl⟩
theorem putA_I {eq : KeyF} {k v : AV} {es es' : List (AV × AV)} (h : putA eq k v es = some es') :
    ∃ q, findI eq k es = some q ∧ ((q = none ∧ es' = es ++ [(k, v)]) ∨ ∃ j p, q = some j ∧ es[j]? = some p ∧ eq k p.1 = some true ∧ es' = es.set j (k, v)) := by
  induction es generalizing es' with
  | nil => injection h with h; exact ⟨none, rfl, .inl ⟨rfl, h.symm⟩⟩
  | cons e es ih =>
    obtain ⟨b, hb, h2⟩ := ob_some (h : ob (eq k e.1) _ = some es')
    cases b with
    | true => injection h2 with h2; exact ⟨some 0, by simp [findI, hb], .inr ⟨0, e, rfl, rfl, hb, h2.symm⟩⟩
    | false =>
      obtain ⟨es2, hes, h3⟩ := ob_some (h2 : ob (putA eq k v es) _ = some es')
      injection h3 with h3
      obtain ⟨q, hq, hr⟩ := ih hes
      refine ⟨q.map (· + 1), by simp [findI, hb, hq], ?_⟩
      rcases hr with ⟨rfl, rfl⟩ | ⟨j, p, rfl, h4, h5, rfl⟩
      · exact .inl ⟨rfl, by rw [← h3]; rfl⟩
      · exact .inr ⟨j + 1, p, rfl, by simpa using h4, h5, by rw [← h3]; rfl⟩

theorem bytes_eq {s u : ByteArray} (h : (s.data.toList == u.data.toList) = true) : s = u := by
  obtain ⟨⟨x⟩⟩ := s
  obtain ⟨⟨y⟩⟩ := u
  simp at h
  rw [h]

theorem sameBits_flat {xs : Array Value} (h : ∀ (i : Nat) (x : Value), xs[i]? = some x → (∃ (k : IntKind) (a : Int), x = .int k a) ∨ ∃ a : Bool, x = .bool a) (m : Nat) : Instr.sameBits (m + 1) (.agg xs) (.agg xs) = true := by
  have key : ∀ l : List Value, (∀ x ∈ l, (∃ (k : IntKind) (a : Int), x = .int k a) ∨ ∃ a : Bool, x = .bool a) → ((l.zip l).all fun (x, y) => Instr.sameBits m x y) = true := fun l hl => by
    induction l with
    | nil => rfl
    | cons x l ih =>
      simp only [List.zip_cons_cons, List.all_cons, Bool.and_eq_true]
      refine ⟨?_, ih fun y hy => hl y (.tail _ hy)⟩
      rcases hl x (.head _) with ⟨k, a, rfl⟩ | ⟨a, rfl⟩ <;> cases m <;> simp [Instr.sameBits]
  simp only [Instr.sameBits, beq_self_eq_true, Bool.true_and]
  refine key _ fun x hx => ?_
  obtain ⟨i, hi⟩ := List.getElem?_of_mem hx
  exact h i _ (by simpa using hi)

/-- Whether a key is a struct. -/
def isStr : TypeDesc → Bool
  | .struct _ => true
  | _ => false
theorem keyD_sound (ht : t.Ok P) {kt : TypeId} {d : TypeDesc} {x y : AV} {u v : Value} {e : Bool} (hd : P.underlying kt = some d) (hx : VR w c x u) (hy : VR w c y v) (h : (keyD d (t.flat kt)).f x y = some e) :
    (e = true → u = v) ∧ (∀ m, Instr.sameBits (m + 1) u u = true) ∧ ((isStr d = false ∧ Instr.sameNow d u v = some e) ∨ (isStr d = true ∧ Instr.sameNow d u v = none ∧ ∀ w, (Op.equal kt u v).run P w = .ok e w)) := by
  cases d with
  | int k0 =>
    obtain ⟨j, p, rfl, h⟩ := onNum_some (h : x.onNum none _ = some e)
    obtain ⟨k, q, rfl, h⟩ := onNum_some (h : y.onNum none _ = some e)
    obtain ⟨h1, h2⟩ := cnd_some h
    have := kindEq_true h1; subst this
    injection h2 with h2
    rw [intEq_eq] at h2
    rw [hx.inv_num, hy.inv_num]
    subst h2
    refine ⟨fun h => by rw [beq_iff_eq.1 h], fun m => by simp [Instr.sameBits], .inl ⟨rfl, by simp [Instr.sameNow]⟩⟩
  | string =>
    obtain ⟨s, rfl, h3⟩ := onStr_some (h : x.onStr none _ = some e)
    obtain ⟨s', rfl, h4⟩ := onStr_some (h3 : y.onStr none _ = some e)
    injection h4 with h2
    rw [bytesEq_eq] at h2
    obtain ⟨s1, rfl, rfl⟩ := hx.inv_str
    obtain ⟨s2, rfl, rfl⟩ := hy.inv_str
    have e1 : (s1 == s2) = e := by
      rw [← h2, Bool.eq_iff_iff, bytes_beq]
      exact ⟨fun h' => by rw [h']; simp, bytes_eq⟩
    refine ⟨fun h' => congrArg Value.string (bytes_eq (h2.trans h')), fun m => by simp [Instr.sameBits, bytes_beq], .inl ⟨rfl, by simp [Instr.sameNow, e1]⟩⟩
  | struct fs =>
    unfold keyD at h
    cases hn : t.flat kt with
    | none => rw [hn] at h; cases h
    | some nn =>
      rw [hn] at h
      obtain ⟨cs, rfl, h3⟩ := onAgg_some (h : x.onAgg none _ = some e)
      obtain ⟨ds, rfl, h4⟩ := onAgg_some (h3 : y.onAgg none _ = some e)
      obtain ⟨cs', hcs, h5⟩ := ob_some h4
      obtain ⟨ds', hds, h6⟩ := ob_some h5
      obtain ⟨hcc, hl⟩ := kdIs_some hcs; subst hcc
      obtain ⟨hdd, hl'⟩ := kdIs_some hds; subst hdd
      obtain ⟨xs, rfl, l1, o1, v1⟩ := hx.inv_agg
      obtain ⟨ys, rfl, l2, o2, v2⟩ := hy.inv_agg
      obtain ⟨hxn, hyn, hpair, hee, hrun⟩ := flat_sound ht hn hl ⟨l1, o1, v1⟩ ⟨l2, o2, v2⟩ h6
      refine ⟨fun h => by rw [hee.1 h], sameBits_flat fun i x hi => ?_, .inr ⟨rfl, rfl, hrun⟩⟩
      have hi' : i < ys.size := by have := (Array.getElem?_eq_some_iff.1 hi).1; omega
      rcases hpair i x _ hi (Array.getElem?_eq_getElem hi') with ⟨k, a, b, _, h, _⟩ | ⟨a, b, _, h, _⟩
      · exact .inl ⟨k, a, h⟩
      · exact .inr ⟨a, h⟩
  | _ => cases h

/-- A key may be a key. -/
theorem key_check (ht : t.Ok P) {kt : TypeId} {d : TypeDesc} {x : AV} {u : Value} {e : Bool} (hd : P.underlying kt = some d) (hx : VR w c x u) (h : (keyD d (t.flat kt)).f x x = some e) (b : Bool) : (Instr.checkKey b 10000 kt u).run P w = .ok () w := by
  cases d with
  | int k0 =>
    obtain ⟨j, p, rfl, h⟩ := onNum_some (h : x.onNum none _ = some e)
    rw [hx.inv_num]
    unfold Instr.checkKey
    simp [run_und w hd]
  | string =>
    obtain ⟨s, rfl, h⟩ := onStr_some (h : x.onStr none _ = some e)
    obtain ⟨s1, rfl, rfl⟩ := hx.inv_str
    unfold Instr.checkKey
    simp [run_und w hd]
  | struct fs =>
    unfold keyD at h
    cases hn : t.flat kt with
    | none => rw [hn] at h; cases h
    | some nn =>
      rw [hn] at h
      obtain ⟨cs, rfl, h3⟩ := onAgg_some (h : x.onAgg none _ = some e)
      obtain ⟨ds, hds0, h4⟩ := onAgg_some (h3 : AV.onAgg ⟨.agg cs⟩ none _ = some e)
      injection hds0 with hds1; injection hds1 with hds2; subst hds2
      obtain ⟨cs', hcs, h5⟩ := ob_some h4
      obtain ⟨ds', hds, h6⟩ := ob_some h5
      obtain ⟨hcc, hl⟩ := kdIs_some hcs; subst hcc
      obtain ⟨hdd, hl'⟩ := kdIs_some hds; subst hdd
      obtain ⟨xs, rfl, l1, o1, v1⟩ := hx.inv_agg
      obtain ⟨hxn, hyn, hpair, hee, hrun⟩ := flat_sound ht hn hl ⟨l1, o1, v1⟩ ⟨l1, o1, v1⟩ h6
      exact ((ht.flat kt nn hn).2 xs xs w hxn hxn hpair).2 b
  | _ => cases h

theorem findNow_I {d : TypeDesc} {eq : KeyF} {k : AV} {u : Value} {es : List (AV × AV)} {l : List MapEntry} {q : Option Nat} (i : Nat)
    (hs : ∀ (j : Nat) (p : AV × AV) (m : MapEntry) (e : Bool), es[j]? = some p → l[j]? = some m → eq k p.1 = some e → Instr.sameNow d u m.key = some e)
    (hl : es.length = l.length) (h : findI eq k es = some q) : ∃ r, Instr.findNow d u l i = some r ∧ ((q = none ∧ r = none) ∨ ∃ j m, q = some j ∧ l[j]? = some m ∧ r = some (i + j, m.val)) := by
  induction es generalizing l i q with
  | nil =>
    cases l with
    | nil => injection h with h; exact ⟨none, rfl, .inl ⟨h.symm, rfl⟩⟩
    | cons m l => cases hl
  | cons p es ih =>
    cases l with
    | nil => cases hl
    | cons m l =>
      unfold findI at h
      cases he : eq k p.1 with
      | none => rw [he] at h; cases h
      | some e =>
        have h0 := hs 0 p m e rfl rfl he
        cases e with
        | true => rw [he] at h; injection h with h; exact ⟨some (i, m.val), by simp [Instr.findNow, h0], .inr ⟨0, m, h.symm, rfl, rfl⟩⟩
        | false =>
          rw [he] at h
          cases hf : findI eq k es with
          | none => rw [hf] at h; cases h
          | some q' =>
            rw [hf] at h; injection h with h
            obtain ⟨r, hr, hq⟩ := ih (i + 1) (fun j p m e h1 h2 => hs (j + 1) p m e (by simpa using h1) (by simpa using h2)) (by simpa using hl) hf
            refine ⟨r, by simp [Instr.findNow, h0, hr], ?_⟩
            rcases hq with ⟨rfl, rfl⟩ | ⟨j, m', rfl, h3, rfl⟩
            · exact .inl ⟨h.symm, rfl⟩
            · exact .inr ⟨j + 1, m', h.symm, by simpa using h3, by congr 2; omega⟩
theorem findAsking_I {kt : TypeId} {eq : KeyF} {k : AV} {u : Value} {es : List (AV × AV)} {l : List MapEntry} {q : Option Nat} (i : Nat)
    (hs : ∀ (j : Nat) (p : AV × AV) (m : MapEntry) (e : Bool), es[j]? = some p → l[j]? = some m → eq k p.1 = some e → (Op.equal kt u m.key).run P w = .ok e w)
    (hl : es.length = l.length) (h : findI eq k es = some q) : ∃ r, (Instr.findAsking kt u l i).run P w = .ok r w ∧ ((q = none ∧ r = none) ∨ ∃ j m, q = some j ∧ l[j]? = some m ∧ r = some (i + j, m.val)) := by
  induction es generalizing l i q with
  | nil =>
    cases l with
    | nil => injection h with h; exact ⟨none, rfl, .inl ⟨h.symm, rfl⟩⟩
    | cons m l => cases hl
  | cons p es ih =>
    cases l with
    | nil => cases hl
    | cons m l =>
      unfold findI at h
      cases he : eq k p.1 with
      | none => rw [he] at h; cases h
      | some e =>
        have h0 := hs 0 p m e rfl rfl he
        cases e with
        | true => rw [he] at h; injection h with h; exact ⟨some (i, m.val), by simp [Instr.findAsking, h0], .inr ⟨0, m, h.symm, rfl, rfl⟩⟩
        | false =>
          rw [he] at h
          cases hf : findI eq k es with
          | none => rw [hf] at h; cases h
          | some q' =>
            rw [hf] at h; injection h with h
            obtain ⟨r, hr, hq⟩ := ih (i + 1) (fun j p m e h1 h2 => hs (j + 1) p m e (by simpa using h1) (by simpa using h2)) (by simpa using hl) hf
            refine ⟨r, by simp [Instr.findAsking, h0, hr], ?_⟩
            rcases hq with ⟨rfl, rfl⟩ | ⟨j, m', rfl, h3, rfl⟩
            · exact .inl ⟨h.symm, rfl⟩
            · exact .inr ⟨j + 1, m', h.symm, by simpa using h3, by congr 2; omega⟩

/-- What is found in a map. -/
theorem findKey_sound (ht : t.Ok P) {kt : TypeId} {d : TypeDesc} {x : AV} {u : Value} {es : List (AV × AV)} {ents : Array MapEntry} {q : Option Nat} (hd : P.underlying kt = some d) (hx : VR w c x u)
    (hl : es.length = ents.size) (hm : ∀ (i : Nat) (p : AV × AV) (e : MapEntry), es[i]? = some p → ents[i]? = some e → VR w c p.1 e.key ∧ VR w c p.2 e.val) (h : findI (keyD d (t.flat kt)).f x es = some q) :
    ∃ r, (Instr.findKey kt u ents.toList).run P w = .ok r w ∧ ((q = none ∧ r = none) ∨ ∃ j m, q = some j ∧ ents[j]? = some m ∧ r = some (j, m.val)) := by
  have hl' : es.length = ents.toList.length := by simpa using hl
  have hm' : ∀ (j : Nat) (p : AV × AV) (m : MapEntry) (e : Bool), es[j]? = some p → ents.toList[j]? = some m → (keyD d (t.flat kt)).f x p.1 = some e → _ := fun j p m e h1 h2 h3 =>
    (keyD_sound ht hd hx (hm j p m h1 (by simpa using h2)).1 h3).2.2
  cases hs : isStr d with
  | false =>
    obtain ⟨r, hr, hq⟩ := findNow_I (d := d) (u := u) 0 (fun j p m e h1 h2 h3 => by
      rcases hm' j p m e h1 h2 h3 with ⟨_, h⟩ | ⟨h, _⟩
      · exact h
      · rw [hs] at h; cases h) hl' h
    refine ⟨r, run_findKey hd hr, ?_⟩
    simpa using hq
  | true =>
    obtain ⟨r, hr, hq⟩ := findAsking_I (P := P) (w := w) (kt := kt) (u := u) 0 (fun j p m e h1 h2 h3 => by
      rcases hm' j p m e h1 h2 h3 with ⟨h, _⟩ | ⟨_, _, h⟩
      · rw [hs] at h; cases h
      · exact h w) hl' h
    refine ⟨r, ?_, by simpa using hq⟩
    cases es with
    | nil =>
      have : ents.toList = [] := List.eq_nil_of_length_eq_zero hl'.symm
      rw [this] at hr ⊢
      exact run_findKey hd (by simp only [Instr.findAsking, Sem.run_pure] at hr; injection hr with hr; rw [← hr]; rfl)
    | cons p es =>
      cases hel : ents.toList with
      | nil => rw [hel] at hl'; cases hl'
      | cons m l =>
        have hsome : ∃ e, (keyD d (t.flat kt)).f x p.1 = some e := by
          unfold findI at h
          cases he : (keyD d (t.flat kt)).f x p.1 with
          | none => rw [he] at h; cases h
          | some e => exact ⟨e, rfl⟩
        obtain ⟨e, he⟩ := hsome
        have h0 : Instr.sameNow d u m.key = none := by
          rcases hm' 0 p m e rfl (by rw [hel]; rfl) he with ⟨h, _⟩ | ⟨_, h, _⟩
          · rw [hs] at h; cases h
          · exact h
        rw [← hel]
        unfold Instr.findKey
        have : Instr.findNow d u ents.toList 0 = none := by rw [hel]; simp [Instr.findNow, h0]
        simp [run_und w hd, this, hr]
end
end Go.Drip

/-
Operations that read memory: lookups, slices, all.
-/
set_option linter.unusedVariables false
set_option linter.unusedSimpArgs false
namespace Go.Drip
open Go.MapKept
section
variable {P : Program} {w : World} {c : Cx} {n : Nat} {kp : Kp} {R : Rl} {T : Tr AV} {a : Act} {t : Tab} {kps : FuncId → Kp} {H : AH}

theorem CsR.zero {z : Value} (h : ∀ v, v ∈ z.cells.toList → v.oneCell' = true) : CsR w c (z.cells.toList.map ofVal1) z.cells :=
  ⟨by simp, fun i v hi => h v (by rw [Array.mem_toList_iff]; exact Array.mem_of_getElem? hi), fun i u v hu hi => by
    rw [List.getElem?_map, show z.cells.toList[i]? = some v by simpa using hi] at hu
    injection hu with hu; subst hu; exact ofVal1_sound v⟩
/-- The zero value as a part of its cells. -/
theorem zero_part (ht : t.Ok P) {ty : TypeId} {zs : List AV} {s : Bool × Nat} {zv : AV} (hz : t.zero ty = some zs) (hs : aggSize t ty = some s) (h : (partA s).f zs 0 = some zv) : ∃ v, (zeroValue ty).run P w = .ok v w ∧ VR w c zv v := by
  obtain ⟨i, z, hi, hzi, rfl, hsz, h1, hsh⟩ := ht.zero _ _ hz
  obtain ⟨d, i', hd, hi', rfl⟩ := aggSize_some ht hs
  rw [hi] at hi'; injection hi' with hi'; subst hi'
  have hcs : CsR w c (z.cells.toList.map ofVal1) z.cells := .zero h1
  obtain ⟨v, hv, hr, hk⟩ := part_sound (P := P) hd hi (Nat.le_of_eq hcs.len) (fun j v _ => hcs.one j v) hcs.at_ h
  refine ⟨z, run_zero w hi hzi, ?_⟩
  unfold part at hv
  simp only [Sem.run_bind, run_isAgg w hd, Result.andThen_ok] at hv
  cases hagg : isAggD d with
  | true =>
    obtain ⟨cs, rfl⟩ := (hsh d hd).1 hagg
    rcases hk with ⟨h, _⟩ | ⟨_, ws, ys, rfl, rfl, hwn⟩
    · rw [hagg] at h; cases h
    · simp only [hagg, if_true, Sem.run_bind, run_size w hi, Result.andThen_ok, Sem.run_pure] at hv
      injection hv with hv
      injection hv with hv
      have : ws = cs := by
        rw [← hv]
        have hc : (Value.agg cs).cells = cs := rfl
        rw [hc, Nat.zero_add, hsz, hc]
        simp
      rw [← this]; exact hr
  | false =>
    have hz1 := (hsh d hd).2 hagg
    simp only [hagg, Bool.false_eq_true, if_false] at hv
    rw [hz1] at hv
    simp at hv
    rw [hv]; exact hr

theorem lookup_sound (ht : t.Ok P) (hh : HR kps w c H) (hA : AR w c n kp R T a) {o : Oper} {xt : TypeId} {x i : Operand} {ok : Bool} (ho : o.op = .lookup xt x i ok) {r : AV} (h : (lookupS t kp xt ok x i).f R T H = some r) : OpV P w c a o r := by
  unfold lookupS at h
  split at h
  · rename_i kt e hxt
    obtain ⟨d, hd, h2⟩ := sR_some h
    obtain ⟨s, hs, h3⟩ := sR_some h2
    obtain ⟨zs, hz, h4⟩ := sR_some h3
    obtain ⟨zv, hzv, h5⟩ := sR_some h4
    obtain ⟨e0, hk0, h6⟩ := ob_some (h5 : lookupF _ _ _ _ _ _ = some r)
    obtain ⟨b, hb, h7⟩ := onMp_some h6
    obtain ⟨es, hes, h8⟩ := ob_some h7
    obtain ⟨f, hf, h9⟩ := ob_some h8
    injection h9 with h9
    have hm := opd_sound hA x
    have hk := opd_sound hA i
    rw [hb] at hm
    obtain ⟨hmv, hb'⟩ := onMp_inv hm
    obtain ⟨ents, clock, g1, g2, g3⟩ := hh.map hb' hes
    obtain ⟨q, hq, hqf⟩ := findA_I hf
    have hdP := ht.und _ _ hd
    obtain ⟨fr, hfr, hq2⟩ := findKey_sound (P := P) ht hdP hk g2 g3 hq
    obtain ⟨z, hzr, hzvr⟩ := zero_part (w := w) (c := c) (P := P) ht hz hs hzv
    have hobj : (getObj (c.blk b)).run P w = .ok (.map ents clock) w := by simp [getObj, Sem.run, g1]
    have hck := key_check (P := P) ht hdP hk hk0
    have hrun : (execOp a.eval o).run P w = (do
        let (v, k) ← (match fr with | some (_, v) => pure (v, true) | none => pure (z, false) : Sem (Value × Bool))
        pure (Next.value (if ok = true then .tuple #[v, .bool k] else v)) : Sem Next).run P w := by
      unfold execOp; rw [ho]
      simp only [Instr.lookup, Sem.run_bind, run_und w (ht.und _ _ hxt), Result.andThen_ok, hmv, hobj, hck, hfr, hzr, Sem.run_pure, Function.comp]
      cases fr with
      | none => simp [hzr]
      | some p => simp
    rw [OpV]
    rw [hrun]
    have htup : ∀ (u : AV) (v : Value) (k : Bool), VR w c u v → VR w c (.tup [u, .bool k]) (.tuple #[v, .bool k]) := fun u v k hv => .tup _ _ rfl fun i u' v' hu hv' => by
      match i, hu, hv' with
      | 0, hu, hv' => simp at hu hv'; subst hu; subst hv'; exact hv
      | 1, hu, hv' => simp at hu hv'; subst hu; subst hv'; exact .bool k
      | i + 2, hu, hv' => simp at hu
    rcases hq2 with ⟨rfl, rfl⟩ | ⟨j, m, rfl, hj, rfl⟩
    · rcases hqf with ⟨_, rfl⟩ | ⟨_, _, h, _⟩
      · refine ⟨_, rfl, ?_⟩
        rw [← h9]
        cases ok
        · exact hzvr
        · exact htup _ _ _ hzvr
      · cases h
    · rcases hqf with ⟨h, _⟩ | ⟨j', p, h, hj', rfl⟩
      · cases h
      · injection h with h; subst h
        refine ⟨_, rfl, ?_⟩
        rw [← h9]
        have := (g3 j p m hj' hj).2
        cases ok
        · exact this
        · exact htup _ _ _ this
  · cases h

/-! ### Slices -/
/-- Bounds. -/
def OVR (w : World) (c : Cx) : Option AV → Option Value → Prop
  | none, none => True
  | some x, some v => VR w c x v
  | _, _ => False
theorem oev_sound (hA : AR w c n kp R T a) (x : Option Operand) : OVR w c ((oev kp x).f R T) (x.map a.eval) := by
  cases x with
  | none => trivial
  | some x => exact opd_sound hA x
theorem bnd_some {x : Option AV} {v : Option Value} {d b : Nat} (hx : OVR w c x v) (h : bnd x d = some b) : (x = none ∧ v = none ∧ b = d) ∨ ∃ k, (x ≠ none) ∧ v = some (.int k (b : Nat)) := by
  cases x with
  | none =>
    cases v with
    | none => injection h with h; exact .inl ⟨rfl, rfl, h.symm⟩
    | some v => exact hx.elim
  | some x =>
    cases v with
    | none => exact hx.elim
    | some v =>
      obtain ⟨k, rfl⟩ := natOf_some h
      exact .inr ⟨k, by simp, by rw [VR.inv_num hx]; rfl⟩
theorem bounds2 {lo hi : Option AV} {lov hiv : Option Value} {len cap l h : Nat} (hlo : OVR w c lo lov) (hhi : OVR w c hi hiv) (h1 : bnd lo 0 = some l) (h2 : bnd hi len = some h) (hl : l ≤ h) (hc : h ≤ cap) (isS : Bool) :
    (Instr.sliceBounds isS len cap lov hiv none).run P w = .ok (l, h, cap) w := by
  unfold Instr.sliceBounds
  rcases bnd_some hlo h1 with ⟨_, rfl, rfl⟩ | ⟨k1, _, rfl⟩ <;> rcases bnd_some hhi h2 with ⟨_, rfl, rfl⟩ | ⟨k2, _, rfl⟩ <;>
    simp [run_sliceBound, hl, hc, Int.ofNat_le]
theorem bounds3 {lo hi mx : Option AV} {lov hiv mxv : Option Value} {len cap l h m : Nat} (hlo : OVR w c lo lov) (hhi : OVR w c hi hiv) (hmx : OVR w c mx mxv) (h1 : bnd lo 0 = some l) (h2 : bnd hi len = some h) (h3 : bnd mx cap = some m) (hn : hi ≠ none) (hl : l ≤ h) (hc : h ≤ m) (hm : m ≤ cap) (isS : Bool) :
    (Instr.sliceBounds isS len cap lov hiv mxv).run P w = .ok (l, h, m) w := by
  unfold Instr.sliceBounds
  rcases bnd_some hhi h2 with ⟨h, _, _⟩ | ⟨k2, _, rfl⟩
  · exact absurd h hn
  rcases bnd_some hlo h1 with ⟨_, rfl, rfl⟩ | ⟨k1, _, rfl⟩ <;> rcases bnd_some hmx h3 with ⟨_, rfl, rfl⟩ | ⟨k3, _, rfl⟩ <;>
    simp [run_sliceBound, hl, hc, hm, Int.ofNat_le]

/-- What the program makes of a slice. -/
theorem run_slice_sl (ht : t.Ok P) {xt e : TypeId} {sz len cap l h m : Nat} {A : Option Addr} {lov hiv mxv : Option Value} (hx : t.und xt = some (.slice e)) (hs : t.size e = some sz)
    (hb : (Instr.sliceBounds true len cap lov hiv mxv).run P w = .ok (l, h, m) w) :
    (Instr.sliceAt xt (.slice A len cap) lov hiv mxv).run P w = .ok (.slice (if m = l then A else A.map (·.add (l * sz))) (h - l) (m - l)) w := by
  obtain ⟨i, hi, hsz, _⟩ := ht.info _ _ hs
  unfold Instr.sliceAt Instr.slice
  simp only [Sem.run_bind, run_und w (ht.und _ _ hx), Result.andThen_ok, hb, run_size w hi, hsz, Sem.run_pure]

theorem mkSl_sound {b r l h s k m : Nat} {cap : Option Nat} (hb : c.D b) (hs : s = c.sz b) (hlh : l ≤ h) (hm : h ≤ m) (hmk : m ≤ k) (hk : c.off b + (r + k) * c.sz b ≤ c.cells b)
    (hcap : (∃ q, cap = some q ∧ m = q) ∨ (cap = none ∧ m = k ∧ c.rows b ≤ r + k ∧ r + l ≤ c.rows b)) :
    VR w c (mkSl b r l h s cap) (.slice (if m = l then some ⟨c.blk b, c.off b + r * c.sz b, none⟩ else (some ⟨c.blk b, c.off b + r * c.sz b, none⟩ : Option Addr).map (·.add (l * s))) (h - l) (m - l)) := by
  have hle : c.off b + (r + l + (m - l)) * c.sz b ≤ c.cells b := Nat.le_trans (Nat.add_le_add_left (Nat.mul_le_mul_right _ (by omega)) _) hk
  have hadr : m ≠ l ∨ l = 0 → (if m = l then some ⟨c.blk b, c.off b + r * c.sz b, none⟩ else (some ⟨c.blk b, c.off b + r * c.sz b, none⟩ : Option Addr).map (·.add (l * s))) = some ⟨c.blk b, c.off b + (r + l) * c.sz b, none⟩ := fun h => by
    rcases h with h | rfl
    · rw [if_neg h]; simp only [Option.map_some, addr_add, hs]; congr 2; rw [Nat.add_mul]; omega
    · split
      · simp
      · simp [addr_add]
  rcases hcap with ⟨q, rfl, rfl⟩ | ⟨rfl, rfl, hr, hrl⟩
  · show VR w c (cnd (Nat.beq m l) .z _) _
    cases he : Nat.beq m l with
    | true =>
      have := Nat.eq_of_beq_eq_true he
      subst this
      have : h - m = 0 := by omega
      rw [this, Nat.sub_self]
      exact .z _
    | false =>
      have hne : m ≠ l := fun h => by subst h; rw [Nat.beq_refl] at he; cases he
      rw [hadr (.inl hne)]
      exact .sl b (r + l) (h - l) s (some (m - l)) (m - l) hb hs (by omega) (fun q hq => by injection hq) (fun h => by cases h) hle
  · show VR w c (.sl b (Nat.add r l) (Nat.sub h l) s none) _
    by_cases he : m = l
    · subst he
      have : h - m = 0 := by omega
      have e : Nat.sub h m = 0 := this
      rw [this, e, Nat.sub_self, if_pos rfl]
      exact .sl0 b (r + m) s hb hs (by omega) _ _
    · rw [hadr (.inl he)]
      exact .sl b (r + l) (h - l) s none (m - l) hb hs (by omega) (fun q hq => by cases hq) (fun _ => by omega) hle
theorem ob_rows {α : Type} {H : AH} {b : Nat} {f : List (List AV) → Option α} {r : α} (h : ob (cellsOf (H.get b)) f = some r) : ∃ rows, cellsOf (H.get b) = some rows ∧ f rows = some r := ob_some h

theorem sliceSl_sound (hh : HR kps w c H) {x r : AV} {v : Value} {s : Nat} {lo hi mx : Option AV} {lov hiv mxv : Option Value} (hv : VR w c x v) (hlo : OVR w c lo lov) (hhi : OVR w c hi hiv) (hmx : OVR w c mx mxv) (hn : mx ≠ none → hi ≠ none)
    (h : sliceF s x lo hi mx H = some r) : ∃ A len cap l h m, v = .slice A len cap ∧ (Instr.sliceBounds true len cap lov hiv mxv).run P w = .ok (l, h, m) w ∧ VR w c r (.slice (if m = l then A else A.map (·.add (l * s))) (h - l) (m - l)) := by
  have zero : ∀ (A : Option Addr), (∀ B, VR w c x (.slice (if True then A else B) 0 0)) → v = .slice A 0 0 → slice0F x lo hi mx = some r → ∃ A len cap l h m, v = .slice A len cap ∧ (Instr.sliceBounds true len cap lov hiv mxv).run P w = .ok (l, h, m) w ∧ VR w c r (.slice (if m = l then A else A.map (·.add (l * s))) (h - l) (m - l)) := fun A hA hvA h => by
    obtain ⟨l, hl, h⟩ := ob_some h
    obtain ⟨h', hh', h⟩ := ob_some h
    obtain ⟨m, hm, h⟩ := ob_some h
    obtain ⟨h0, h⟩ := cnd_some h
    have h0 := Nat.eq_of_beq_eq_true h0
    have e1 : l = 0 := by simp at h0; omega
    have e2 : h' = 0 := by simp at h0; omega
    have e3 : m = 0 := by simp at h0; omega
    subst e1; subst e2; subst e3
    injection h with h; subst h
    refine ⟨A, 0, 0, 0, 0, 0, hvA, ?_, by simpa using hA none⟩
    cases mx with
    | none =>
      cases mxv with
      | none => exact bounds2 hlo hhi hl hh' (Nat.le_refl _) (Nat.le_refl _) true
      | some v => exact hmx.elim
    | some q => exact bounds3 hlo hhi hmx hl hh' hm (hn (by simp)) (Nat.le_refl _) (Nat.le_refl _) (Nat.le_refl _) true
  rcases onSl_some h with ⟨b, p, n, s', q, rfl, h2⟩ | ⟨s', n, f, rfl, h2⟩ | ⟨rfl, h2⟩ | ⟨rfl, h2⟩
  · obtain ⟨hss, h3⟩ := cnd_some h2
    have hss := Nat.eq_of_beq_eq_true hss
    subst hss
    obtain ⟨rows, hrows, h4⟩ := ob_some h3
    cases hv with
    | sl _ _ _ _ _ k hb hs hnk hc hr hk =>
      obtain ⟨arr, e, h5, h6, h7, h8, h9⟩ := hh.rows hb hrows
      obtain ⟨l, hl, h10⟩ := ob_some (h4 : sliceSlF s b p n q lo hi mx rows = some r)
      obtain ⟨hi', hhi', h11⟩ := ob_some h10
      have hkn : opt q (Nat.sub (len rows) p) (fun m => m) ≤ k := by
        cases q with
        | none => have := hr rfl; simp only [len_eq, opt_none]; show rows.length - p ≤ k; omega
        | some m => rw [hc m rfl]; exact Nat.le_refl _
      cases mx with
      | none =>
        cases mxv with
        | some v => exact hmx.elim
        | none =>
          obtain ⟨c1, h12⟩ := cnd_some (h11 : cnd _ _ none = some r)
          obtain ⟨c2, h13⟩ := cnd_some h12
          obtain ⟨c3, h14⟩ := cnd_some h13
          have c1 := Nat.le_of_ble_eq_true c1
          have c2 := Nat.le_trans (Nat.le_of_ble_eq_true c2) hkn
          refine ⟨_, _, _, l, hi', k, rfl, bounds2 hlo hhi hl hhi' c1 c2 true, ?_⟩
          injection h14 with h14
          rw [← h14]
          exact mkSl_sound hb hs c1 c2 (Nat.le_refl _) hk (by
            cases q with
            | none =>
              have c3 := Nat.le_of_ble_eq_true c3
              simp only [len_eq] at c3
              have c3 : p + hi' ≤ rows.length := c3
              exact .inr ⟨rfl, rfl, hr rfl, by omega⟩
            | some m => exact .inl ⟨m, rfl, hc m rfl⟩)
      | some mv =>
        obtain ⟨m, hm, h12⟩ := ob_some (h11 : ob (natOf mv) _ = some r)
        obtain ⟨c1, h13⟩ := cnd_some h12
        obtain ⟨c2, h14⟩ := cnd_some h13
        obtain ⟨c3, h15⟩ := cnd_some h14
        have c1 := Nat.le_of_ble_eq_true c1
        have c2 := Nat.le_of_ble_eq_true c2
        have c3 := Nat.le_trans (Nat.le_of_ble_eq_true c3) hkn
        injection h15 with h15; subst h15
        refine ⟨_, _, _, l, hi', m, rfl, bounds3 hlo hhi hmx hl hhi' (show bnd (some mv) k = some m from hm) (hn (by simp)) c1 c2 c3 true, ?_⟩
        exact mkSl_sound hb hs c1 c2 c3 hk (.inl ⟨m, rfl, rfl⟩)
    | sl0 _ _ _ hb hs hr g o =>
      obtain ⟨arr, e, h5, h6, h7, h8, h9⟩ := hh.rows hb hrows
      obtain ⟨l, hl, h10⟩ := ob_some (h4 : sliceSlF s b p 0 none lo hi mx rows = some r)
      obtain ⟨hi', hhi', h11⟩ := ob_some h10
      have hkn : opt (none : Option Nat) (Nat.sub (len rows) p) (fun m => m) = 0 := by
        simp only [len_eq, opt_none]; show rows.length - p = 0; omega
      cases mx with
      | none =>
        cases mxv with
        | some v => exact hmx.elim
        | none =>
          obtain ⟨c1, h12⟩ := cnd_some (h11 : cnd _ _ none = some r)
          obtain ⟨c2, h13⟩ := cnd_some h12
          obtain ⟨c3, h14⟩ := cnd_some h13
          have c1 := Nat.le_of_ble_eq_true c1
          have c2 := Nat.le_of_ble_eq_true c2
          rw [hkn] at c2
          have e1 : hi' = 0 := by omega
          have e2 : l = 0 := by omega
          subst e1; subst e2
          injection h14 with h14
          rw [← h14]
          exact ⟨_, _, _, 0, 0, 0, rfl, bounds2 hlo hhi hl hhi' (Nat.le_refl _) (Nat.le_refl _) true, .sl0 b (p + 0) s hb hs hr g o⟩
      | some mv =>
        obtain ⟨m, hm, h12⟩ := ob_some (h11 : ob (natOf mv) _ = some r)
        obtain ⟨c1, h13⟩ := cnd_some h12
        obtain ⟨c2, h14⟩ := cnd_some h13
        obtain ⟨c3, h15⟩ := cnd_some h14
        have c1 := Nat.le_of_ble_eq_true c1
        have c2 := Nat.le_of_ble_eq_true c2
        have c3 := Nat.le_of_ble_eq_true c3
        rw [hkn] at c3
        have e1 : m = 0 := by omega
        have e2 : hi' = 0 := by omega
        have e3 : l = 0 := by omega
        subst e1; subst e2; subst e3
        injection h15 with h15; subst h15
        exact ⟨_, _, _, 0, 0, 0, rfl, bounds3 hlo hhi hmx hl hhi' (show bnd (some mv) 0 = some 0 from hm) (hn (by simp)) (Nat.le_refl _) (Nat.le_refl _) (Nat.le_refl _) true, .z _⟩
  · cases mx with
    | some m => cases h2
    | none =>
      cases mxv with
      | some v => exact hmx.elim
      | none =>
        obtain ⟨hss, h3⟩ := cnd_some (h2 : sliceImmF s' n f lo hi s = some r)
        have hss := Nat.eq_of_beq_eq_true hss
        subst hss
        obtain ⟨l, hl, h4⟩ := ob_some h3
        obtain ⟨hi', hhi', h5⟩ := ob_some h4
        obtain ⟨c1, h6⟩ := cnd_some h5
        obtain ⟨c2, h7⟩ := cnd_some h6
        have c1 := Nat.le_of_ble_eq_true c1
        have c2 := Nat.le_of_ble_eq_true c2
        injection h7 with h7; subst h7
        cases hv with
        | imm _ _ _ g o k vals hk hs hl' hc h1 hvv =>
          refine ⟨_, _, _, l, hi', k, rfl, bounds2 hlo hhi hl hhi' c1 (by omega) true, ?_⟩
          have e : (if k = l then some ⟨g, o, none⟩ else (some ⟨g, o, none⟩ : Option Addr).map (·.add (l * s'))) = some ⟨g, if k = l then o else o + l * s', none⟩ := by
            split
            · rfl
            · simp [addr_add]
          rw [e]
          refine .imm s' (hi' - l) _ g _ (k - l) (fun i j => vals (l + i) j) (by omega) (fun h0 h1 => hs (by omega) h1) (fun i hi => hl' (l + i) (by omega)) (fun i j hi hj => ?_) (fun i j hi hj => h1 (l + i) j (by omega) hj) (fun i j u hi hu => hvv (l + i) j u (by omega) hu)
          have hne : ¬ k = l := by omega
          rw [if_neg hne]
          have := hc (l + i) j (by omega) hj
          rw [← this, Nat.add_mul]
          congr 2; omega
        | immz _ _ A k hA =>
          have e1 : hi' = 0 := by omega
          have e2 : l = 0 := by omega
          subst e1; subst e2
          exact ⟨_, _, _, 0, 0, k, rfl, bounds2 hlo hhi hl hhi' (Nat.le_refl _) (Nat.zero_le _) true, .immz s' _ _ k fun e => hA (by cases A with | none => rfl | some A => (split at e <;> cases e))⟩
  · cases hv with
    | z A => exact zero A (fun B => by simpa using VR.z A) rfl h2
  · cases hv with
    | nils => exact zero none (fun B => by simpa using VR.nils) rfl h2
theorem sliceStr_sound {s : ByteArray} {lo hi : Option AV} {lov hiv : Option Value} {r : AV} (hlo : OVR w c lo lov) (hhi : OVR w c hi hiv) (h : sliceStrF s.data.toList lo hi = some r) :
    ∃ l h, (Instr.sliceBounds false s.size s.size lov hiv none).run P w = .ok (l, h, s.size) w ∧ VR w c r (.string (s.extract l h)) := by
  obtain ⟨l, hl, h2⟩ := ob_some h
  obtain ⟨hi', hhi', h3⟩ := ob_some h2
  obtain ⟨c1, h4⟩ := cnd_some h3
  obtain ⟨c2, h5⟩ := cnd_some h4
  have c1 := Nat.le_of_ble_eq_true c1
  have c2 := Nat.le_of_ble_eq_true c2
  injection h5 with h5; subst h5
  have hsz : len s.data.toList = s.size := by rw [len_eq]; rfl
  rw [hsz] at hhi' c2
  refine ⟨l, hi', bounds2 hlo hhi hl hhi' c1 c2 false, ?_⟩
  have : AV.str (tak (drp s.data.toList l) (Nat.sub hi' l)) = ⟨.x (.str (s.extract l hi').data.toList)⟩ := by
    simp [ByteArray.data_extract]
  rw [this]; exact .str _

theorem slice_sound (ht : t.Ok P) (hh : HR kps w c H) (hA : AR w c n kp R T a) {o : Oper} {xt : TypeId} {x : Operand} {lo hi mx : Option Operand} (ho : o.op = .slice xt x lo hi mx) {r : AV} (h : (sliceS t kp xt x lo hi mx).f R T H = some r) : OpV P w c a o r := by
  unfold sliceS at h
  split at h
  · rename_i hxt
    obtain ⟨s, hs, h2⟩ := onStr_some h
    have hx := opd_sound hA x
    rw [hs] at hx
    obtain ⟨u, hu, rfl⟩ := hx.inv_str
    obtain ⟨l, h', hb, hr⟩ := sliceStr_sound (P := P) (oev_sound hA lo) (oev_sound hA hi) h2
    refine ⟨_, ?_, hr⟩
    unfold execOp; rw [ho]
    simp [Instr.sliceAt, Instr.slice, run_und w (ht.und _ _ hxt), hu, hb]
  · rename_i mx _ _ e hxt
    cases hcnd : cnd mx.isSome hi.isNone false with
    | true => rw [hcnd] at h; cases h
    | false =>
      rw [hcnd] at h
      obtain ⟨s, hs, h2⟩ := sR_some h
      obtain ⟨A, ln, cap, l, h', m, hx, hb, hr⟩ := sliceSl_sound (P := P) hh (opd_sound hA x) (oev_sound hA lo) (oev_sound hA hi) (oev_sound hA mx) (by
        cases mx with
        | none => intro h; exact absurd rfl h
        | some m => cases hi with
          | none => cases hcnd
          | some hi => intro _ h; cases h) h2
      refine ⟨_, ?_, hr⟩
      unfold execOp; rw [ho]
      simp only [hx, Sem.run_bind, run_slice_sl ht hxt hs hb, Result.andThen_ok, Sem.run_pure]
  · cases h

theorem opRead_sound (ht : t.Ok P) (hh : HR kps w c H) (hA : AR w c n kp R T a) {o : Oper} {r : AV} (h : (opRead t kp o.op).f R T H = some r) : OpV P w c a o r := by
  cases ho : o.op with
  | load ty x => rw [ho] at h; exact load_sound ht hh hA ho h
  | lookup xt x i ok => rw [ho] at h; exact lookup_sound ht hh hA ho h
  | slice xt x lo hi mx => rw [ho] at h; exact slice_sound ht hh hA ho h
  | call cl =>
    rw [ho] at h
    unfold opRead at h
    simp only at h
    split at h
    · rename_i ty x hc hty hx
      obtain ⟨d, hd, h2⟩ := sR_some h
      exact len_sound ht hh hA ho hc hx hty (ht.und _ _ hd) h2
    · cases h
  | _ => rw [ho] at h; cases h
end
end Go.Drip

