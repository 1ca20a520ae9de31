import Derived.Test.YtadmkkbgdbcjiaaGreatLib09
/-
Regions that draw their order: what the evaluator says of them is so in any order. No condition.
-/
/-
Regions that draw their order: what a read sees is the same in any order.
-/
set_option linter.unusedVariables false
set_option linter.unusedSimpArgs false
namespace Go.Drip
section
variable {P : Program} {t : Tab} {kp : Kp} {kps : FuncId → Kp} {run : Run} {rec : Rec} {base : Nat} {T : Tr AV} {ops : List Oper} {ds : Nat → DS}

theorem GStep.next {s : OpS} {d d' : DS} (h : GStep t kp kps run ops rec base T s d d') : d.C.next ≤ d'.C.next := by
  cases h with
  | go d' hg h => cases h <;> first | exact Nat.le_refl _ | assumption
  | skip hg => exact Nat.le_refl _
theorem GStep.max {s : OpS} {d d' : DS} (h : GStep t kp kps run ops rec base T s d d') (hm : d.C.next ≤ maxH) : d'.C.next ≤ maxH := by
  cases h with
  | go d' hg h => cases h <;> first | exact hm | assumption
  | skip hg => exact hm
theorem Trace.mono (h : Trace t kp kps run ops rec base T ds) {i j : Nat} (hij : i ≤ j) (hj : j ≤ ops.length) : (ds i).C.next ≤ (ds j).C.next := by
  induction j with
  | zero => have : i = 0 := by omega
            subst this; exact Nat.le_refl _
  | succ j ih =>
    by_cases e : i = j + 1
    · subst e; exact Nat.le_refl _
    · have ho := List.getElem?_eq_getElem (l := ops) (i := j) (by omega)
      exact Nat.le_trans (ih (by omega) (by omega)) (h.step j _ ho).next
theorem Trace.max (h : Trace t kp kps run ops rec base T ds) (h0 : (ds 0).C.next ≤ maxH) : ∀ i, i ≤ ops.length → (ds i).C.next ≤ maxH := by
  intro i
  induction i with
  | zero => exact fun _ => h0
  | succ i ih =>
    intro hi
    have ho := List.getElem?_eq_getElem (l := ops) (i := i) (by omega)
    exact (h.step i _ ho).max (ih (by omega))

theorem merged_same {i j : Nat} (hc : ¬ ChX t kp T ops ds i) : Merged t kp T ops ds (i + 1) j ↔ Merged t kp T ops ds i j :=
  ⟨fun ⟨q, h1, h2, h3⟩ => ⟨q, by
      rcases Nat.lt_or_eq_of_le (Nat.le_of_lt_succ h1) with h | h
      · exact h
      · subst h; exact absurd h2 hc, h2, h3⟩, fun ⟨q, h1, h2, h3⟩ => ⟨q, by omega, h2, h3⟩⟩
theorem Merged.up {i i' j : Nat} (h : Merged t kp T ops ds i j) (hi : i ≤ i') : Merged t kp T ops ds i' j := let ⟨q, h1, h2, h3⟩ := h; ⟨q, by omega, h2, h3⟩

theorem Trace.heap_same (h : Trace t kp kps run ops rec base T ds) {i : Nat} (hi : i < ops.length) (hc : ¬ ChX t kp T ops ds i) {D : Nat → Prop} : heapD t kp T ops ds (i + 1) D = heapD t kp T ops ds i D := by
  have ho := List.getElem?_eq_getElem (l := ops) (i := i) hi
  have hC : (ds (i + 1)).C = (ds i).C := by
    by_cases hn : NwX t kp T ops ds i
    · obtain ⟨o, x, _, _, _, h1, _⟩ := h.newly hn; exact h1
    · exact (h.quietly ho hc hn).1
  unfold heapD entries
  rw [hC]
  congr 2
  refine List.filter_congr fun j _ => ?_
  rw [decide_eq_decide, merged_same hc]
theorem Trace.heap_range (h : Trace t kp kps run ops rec base T ds) {i j : Nat} (hij : i ≤ j) (hj : j ≤ ops.length) (hc : ∀ q, i ≤ q → q < j → ¬ ChX t kp T ops ds q) {D : Nat → Prop} : heapD t kp T ops ds j D = heapD t kp T ops ds i D := by
  induction j with
  | zero => have : i = 0 := by omega
            subst this; rfl
  | succ j ih =>
    by_cases e : i = j + 1
    · subst e; rfl
    · rw [h.heap_same (by omega) (hc j (by omega) (by omega))]
      exact ih (by omega) (by omega) fun q h1 h2 => hc q h1 (by omega)

/-- The whole heap. -/
noncomputable abbrev full (t : Tab) (kp : Kp) (T : Tr AV) (ops : List Oper) (ds : Nat → DS) (i : Nat) : AH := heapD t kp T ops ds i fun _ => True

theorem view_fields (s : OpS) (d : DS) : (view s base d).next = d.C.next ∧ (view s base d).prot = d.C.prot := by
  have h1 := putNB_fields (bit s.m) d.NB (clearIds base s.news d.C)
  have h2 := clearIds_fields base s.news d.C
  exact ⟨h1.1.trans h2.1, h1.2.trans h2.2⟩

open Classical in
theorem Trace.view_get (h : Trace t kp kps run ops rec base T ds) (hok : edgesOk 0 ops = true) (hm : base + cntOf t ops ≤ maxH) {i : Nat} {o : Oper} (ho : ops[i]? = some o) {b : Nat} (hb : b < maxH) :
    (view (recOf t ops i o) base (ds i)).get b = if ∃ j q, (j, q) ∈ ranks t (numbered 0 ops) 0 ∧ anc ops i j = false ∧ base + q = b then none else (full t kp T ops ds i).get b := by
  have hi := (List.getElem?_eq_some_iff.1 ho).1
  have hNB := h.NB hok i (by omega)
  have hsm : ∀ e ∈ (ds i).NB, e.2.1 < maxH := fun e he => by
    obtain ⟨j, _, h2, _, rfl⟩ := (hNB e).1 he
    have := (h.id_lt h2).2
    unfold idOf at this
    omega
  have hap : Apart (ds i).NB := fun e he e' he' hid => by
    obtain ⟨j, _, h2, _, rfl⟩ := (hNB e).1 he
    obtain ⟨j', _, h2', _, rfl⟩ := (hNB e').1 he'
    rw [h.id_inj h2 h2' hid]
  have hcl : ∀ q ∈ (recOf t ops i o).news, base + q < maxH := fun q hq => by
    obtain ⟨j, h1, _⟩ := news_spec.1 hq
    have := (ranks_lt t h1).2
    unfold cntOf at hm
    omega
  by_cases hc : ∃ j q, (j, q) ∈ ranks t (numbered 0 ops) 0 ∧ anc ops i j = false ∧ base + q = b
  · rw [if_pos hc]
    obtain ⟨j, q, h1, h2, h3⟩ := hc
    unfold view
    rw [get_putNB_out hb hsm fun e he hf => ?_, get_clearIds hb hcl, if_pos ⟨q, news_spec.2 ⟨j, h1, h2⟩, h3⟩]
    intro hid
    obtain ⟨j', _, h5, _, rfl⟩ := (hNB e).1 he
    obtain ⟨o', q', _, _, h6, h7, _, h8⟩ := h.id_spec h5
    unfold idOf at h6
    have : q = q' := by omega
    subst this
    have := ranks_inj t h1 h7
    subst this
    rw [h8] at hf
    have hf : anc ops i j = true := hf
    rw [h2] at hf; cases hf
  · rw [if_neg hc]
    by_cases hx : ∃ j, NwX t kp T ops ds j ∧ ¬ Merged t kp T ops ds i j ∧ idOf ds j = b
    · obtain ⟨j, h1, h2, rfl⟩ := hx
      obtain ⟨o', q', _, _, h6, h7, _, h8⟩ := h.id_spec h1
      have hanc : anc ops i j = true := by
        cases ha : anc ops i j with
        | true => rfl
        | false => exact absurd ⟨j, q', h7, ha, h6.symm⟩ hc
      have hlt := anc_lt hok ho hanc
      have hmem := (hNB (entOf ds j)).2 ⟨j, hlt, h1, h2, rfl⟩
      rw [h.heap_in hm trivial h1 h2]
      unfold view
      exact get_putNB_in hsm hap hmem (by rw [h8]; exact hanc)
    · rw [h.heap_out hm hb fun j _ h1 h2 h3 => hx ⟨j, h1, h2, h3⟩]
      unfold view
      rw [get_putNB_out hb hsm fun e he hf hid => ?_, get_clearIds hb hcl, if_neg]
      · rintro ⟨q, hq, hqb⟩
        obtain ⟨j, h1, h2⟩ := news_spec.1 hq
        exact hc ⟨j, q, h1, h2, hqb⟩
      · obtain ⟨j', _, h5, h6, rfl⟩ := (hNB e).1 he
        exact hx ⟨j', h5, h6, hid⟩

theorem Trace.full_step (h : Trace t kp kps run ops rec base T ds) (hok : edgesOk 0 ops = true) (hch : chainOk t (masks ops []) (numbered 0 ops) = true) (hm : base + cntOf t ops ≤ maxH) {i : Nat} {o : Oper} (ho : ops[i]? = some o)
    (hc : ChX t kp T ops ds i) {b : Nat} (hb : b < maxH) (hnc : ∀ j q, (j, q) ∈ ranks t (numbered 0 ops) 0 → base + q = b → NwX t kp T ops ds j)
    (hk : (ds (i + 1)).C.get b = (view (recOf t ops i o) base (ds i)).get b) : (full t kp T ops ds (i + 1)).get b = (full t kp T ops ds i).get b := by
  by_cases hx : ∃ j, NwX t kp T ops ds j ∧ ¬ Merged t kp T ops ds (i + 1) j ∧ idOf ds j = b
  · obtain ⟨j, h1, h2, rfl⟩ := hx
    rw [h.heap_in hm trivial h1 h2, h.heap_in hm trivial h1 fun hmg => h2 (hmg.up (Nat.le_succ _))]
  · rw [h.heap_out hm hb fun j _ h1 h2 h3 => hx ⟨j, h1, h2, h3⟩, hk, h.view_get hok hm ho hb, if_neg]
    rintro ⟨j, q, h1, h2, h3⟩
    have hn := hnc j q h1 h3
    obtain ⟨o', q', _, _, h6, h7, _, h8⟩ := h.id_spec hn
    have hq := ranks_fun t h1 h7
    subst hq
    have hmg : Merged t kp T ops ds (i + 1) j := Classical.byContradiction fun hno => hx ⟨j, hn, hno, h6.trans h3⟩
    obtain ⟨p, p1, p2, p3⟩ := hmg
    rcases Nat.lt_or_eq_of_le (Nat.le_of_lt_succ p1) with hp | hp
    · obtain ⟨op, hop, hcp, _⟩ := p2
      obtain ⟨oi, hoi, hci, _⟩ := hc
      have h9 := chain_spec hch hop hoi hcp hci hp
      have h10 := anc_trans hok hoi h9 p3
      have h2 : bit ((masks ops []).getD i 0) j = false := h2
      rw [h2] at h10; cases h10
    · subst hp
      rw [p3] at h2; cases h2

theorem Trace.full_range (h : Trace t kp kps run ops rec base T ds) (hok : edgesOk 0 ops = true) (hch : chainOk t (masks ops []) (numbered 0 ops) = true) (hm : base + cntOf t ops ≤ maxH) {b : Nat} (hb : b < maxH)
    (hnc : ∀ j q, (j, q) ∈ ranks t (numbered 0 ops) 0 → base + q = b → NwX t kp T ops ds j) {i j : Nat} (hij : i ≤ j) (hj : j ≤ ops.length)
    (hk : ∀ q o, i ≤ q → q < j → ops[q]? = some o → ChX t kp T ops ds q → (ds (q + 1)).C.get b = (view (recOf t ops q o) base (ds q)).get b) : (full t kp T ops ds j).get b = (full t kp T ops ds i).get b := by
  induction j with
  | zero => have : i = 0 := by omega
            subst this; rfl
  | succ j ih =>
    by_cases e : i = j + 1
    · subst e; rfl
    · rw [← ih (by omega) (by omega) fun q o h1 h2 => hk q o h1 (by omega)]
      have ho := List.getElem?_eq_getElem (l := ops) (i := j) (by omega)
      by_cases hc : ChX t kp T ops ds j
      · exact h.full_step hok hch hm ho hc hb hnc (hk j _ (by omega) (by omega) ho hc)
      · unfold full
        rw [h.heap_same (by omega) hc]

/-- What writes leave. -/
theorem Trace.write_keeps (h : Trace t kp kps run ops rec base T ds) (h0 : (ds 0).C.next ≤ maxH) {q : Nat} {o : Oper} (ho : ops[q]? = some o) (hc : ChX t kp T ops ds q) (hw : clsOf t o.op = .write) :
    tchOf ds q = (touchOp kp o.op).f (envR (recOf t ops q o).us (ds q).E) T ∧ (∀ u ∈ (recOf t ops q o).ur, apartW (tchOf ds q) (touchAt (ds q).L u) = true) ∧
    ∀ b, b < (ds q).C.next → tchOf ds q ≠ some b → (ds (q + 1)).C.get b = (view (recOf t ops q o) base (ds q)).get b := by
  have hq := (List.getElem?_eq_some_iff.1 ho).1
  have hmax := h.max h0 q (by omega)
  obtain ⟨o', ho', hco, hg⟩ := hc
  rw [ho] at ho'; injection ho' with ho'; subst ho'
  have hd := (h.step q o ho).goes hg
  unfold tchOf
  generalize ds (q + 1) = d' at *
  cases hd with
  | write v C hcl hx hu hlt hn hmx =>
    refine ⟨rfl, hu, fun b hb hne => ?_⟩
    have hvf := view_fields (base := base) (recOf t ops q o) (ds q)
    refine (write_local (by rw [hvf.1]; exact hmax) (fun b' hb' => ?_) hx).2 b (by rw [hvf.1]; exact hb) hne
    have hb2 : (touchOp kp (recOf t ops q o).o.op).f (envR (recOf t ops q o).us (ds q).E) T = some b' := hb'
    rw [hb2] at hlt
    exact Nat.le_of_ble_eq_true hlt
  | pure v hc _ => rw [show clsOf t o.op = _ from hc] at hw; cases hw
  | read v hc _ _ _ => rw [show clsOf t o.op = _ from hc] at hw; cases hw
  | new x hc _ => rw [show clsOf t o.op = _ from hc] at hw; cases hw
  | call v C hc _ _ _ _ => rw [show clsOf t o.op = _ from hc] at hw; cases hw
end
end Go.Drip

/-
Regions that draw their order: what a read touches is in any order what it is in the order of the text.
-/
set_option linter.unusedVariables false
set_option linter.unusedSimpArgs false
namespace Go.Drip
section
variable {P : Program} {t : Tab} {kp : Kp} {kps : FuncId → Kp} {run : Run} {rec : Rec} {base : Nat} {T : Tr AV} {ops : List Oper} {ds : Nat → DS}

/-- A call beside which something is read leaves what is old. -/
def KeptC (t : Tab) (kp : Kp) (T : Tr AV) (ops : List Oper) (base : Nat) (ds : Nat → DS) (i : Nat) : Prop := ∀ o, ops[i]? = some o → clsOf t o.op = .call → ChX t kp T ops ds i → (recOf t ops i o).quiet = true →
  ∀ b, b < (ds i).C.next → (ds (i + 1)).C.get b = (view (recOf t ops i o) base (ds i)).get b

theorem Trace.read_facts (h : Trace t kp kps run ops rec base T ds) {i : Nat} {o : Oper} (ho : ops[i]? = some o) (hg : Goes kp T ops (recOf t ops i o) (ds i)) (hr : clsOf t o.op = .read) :
    tchOf ds i = (touchOp kp o.op).f (envR (recOf t ops i o).us (ds i).E) T ∧ (opRead t kp o.op).f (envR (recOf t ops i o).us (ds i).E) T (view (recOf t ops i o) base (ds i)) = some (valOf ds i) ∧
    (∀ u ∈ (recOf t ops i o).ue, u.2 = false → apartW (touchAt (ds i).L u.1) (tchOf ds i) = true) ∧ ∀ b, tchOf ds i = some b → b < (ds i).C.next := by
  have hd := (h.step i o ho).goes hg
  unfold tchOf valOf
  generalize ds (i + 1) = d' at *
  cases hd with
  | read v hcl hx hu hlt =>
    refine ⟨rfl, hx, fun u hm => (hu u hm).2, fun b hb => ?_⟩
    have hb : (touchOp kp (recOf t ops i o).o.op).f (envR (recOf t ops i o).us (ds i).E) T = some b := hb
    rw [hb] at hlt
    exact Nat.le_of_ble_eq_true hlt
  | pure v hc _ => rw [show clsOf t o.op = _ from hc] at hr; cases hr
  | new x hc _ => rw [show clsOf t o.op = _ from hc] at hr; cases hr
  | write v C hc _ _ _ _ _ => rw [show clsOf t o.op = _ from hc] at hr; cases hr
  | call v C hc _ _ _ _ => rw [show clsOf t o.op = _ from hc] at hr; cases hr

theorem apartW_ne {a b : Option Nat} {x : Nat} (h : apartW a b = true) (hb : b = some x) : a ≠ some x := by
  subst hb
  intro ha; subst ha
  have h : not' (Nat.beq x x) = true := h
  rw [Nat.beq_refl] at h; cases h
theorem apartW_ne' {a b : Option Nat} {x : Nat} (h : apartW a b = true) (ha : a = some x) : b ≠ some x := by
  subst ha
  intro hb; subst hb
  have h : not' (Nat.beq x x) = true := h
  rw [Nat.beq_refl] at h; cases h

theorem InvD.read_at {n : Nat} {w0 w : World} {c0 c : Cx} {H0 : AH} (hT : Trace t kp kps run ops rec H0.next T ds) (hok : edgesOk 0 ops = true) (hch : chainOk t (masks ops []) (numbered 0 ops) = true) (hm : H0.next + cntOf t ops ≤ maxH)
    (h0 : (ds 0).C.next ≤ maxH) {df : List Deferred} {D : Nat → Prop} {a : Act} {k : Nat} (h : InvD kps t kp T ops ds n w0 c0 H0 df D a w c k) (hcl : Closed ops D) {i : Nat} {o : Oper} (ho : ops[i]? = some o) (hanc : ∀ j, anc ops i j = true → D j) (hnd : ¬ D i)
    (hr : clsOf t o.op = .read) (hg : Goes kp T ops (recOf t ops i o) (ds i)) (hK : ∀ q, (i < q ∧ q < k) ∨ (k ≤ q ∧ q < i) → KeptC t kp T ops H0.next ds q) {b : Nat} {y : Blk}
    (htb : (touchOp kp o.op).f (envR (recOf t ops i o).us (ds i).E) T = some b) (hy : (view (recOf t ops i o) H0.next (ds i)).get b = some y) : (heapD t kp T ops ds k D).get b = some y := by
  have hi := (List.getElem?_eq_some_iff.1 ho).1
  have hA := h.env hT ho hanc hok hcl hnd
  have hb := touch_use hA htb
  have hbk : b < (ds k).C.next := by
    have := h.stp.hr.N b hb
    rwa [(heapD_fields k D).1] at this
  have hmax := hT.max h0 k h.le
  have hbm : b < maxH := by omega
  rw [hT.view_get hok hm ho hbm] at hy
  split at hy
  · cases hy
  have hfull : (heapD t kp T ops ds k D).get b = (full t kp T ops ds k).get b := by
    by_cases hx : ∃ j, NwX t kp T ops ds j ∧ ¬ Merged t kp T ops ds k j ∧ idOf ds j = b
    · obtain ⟨j, h1, h2, rfl⟩ := hx
      rw [hT.heap_in hm ((h.idD hT rfl h1).1 hb) h1 h2, hT.heap_in hm trivial h1 h2]
    · rw [hT.heap_out hm hbm fun j _ h1 h2 h3 => hx ⟨j, h1, h2, h3⟩, hT.heap_out hm hbm fun j _ h1 h2 h3 => hx ⟨j, h1, h2, h3⟩]
  have hncx : ∀ j q, (j, q) ∈ ranks t (numbered 0 ops) 0 → H0.next + q = b → NwX t kp T ops ds j := fun j q h1 h2 => ((h.ids j q h1).1 (by rw [h2]; exact hb)).2
  obtain ⟨htch, _, hue, hlt⟩ := hT.read_facts ho hg hr
  rw [htb] at htch
  have hbi := hlt b htch
  have hir : isRead t o = true := by unfold isRead; rw [hr]
  rw [hfull]
  rcases Nat.lt_or_ge i k with hik | hik
  · rw [hT.full_range hok hch hm hbm hncx (Nat.le_of_lt hik) h.le fun q oq h1 h2 hoq hcq => ?_]
    · exact hy
    obtain ⟨oq', hoq', hcoq, hgq⟩ := hcq
    rw [hoq] at hoq'; injection hoq' with hoq'; subst hoq'
    have hcq : ChX t kp T ops ds q := ⟨oq, hoq, hcoq, hgq⟩
    have hqi : q ≠ i := fun e => by
      subst e
      rw [ho] at hoq; injection hoq with hoq; subst hoq
      rcases chain_cls hcoq with h | h <;> rw [hr] at h <;> cases h
    have hDq := (h.chain q hcq).2 h2
    have hna : anc ops q i = false := by
      cases ha : anc ops q i with
      | false => rfl
      | true => exact absurd (closed_anc hok hcl hoq (fun e he hb => hcl q oq hoq hDq e he hb) ha) hnd
    have hna' : anc ops i q = false := by
      cases ha : anc ops i q with
      | false => rfl
      | true => have := anc_lt hok ho ha; omega
    have hbq : b < (ds q).C.next := Nat.lt_of_lt_of_le hbi (hT.mono h1 (by have := h.le; omega))
    rcases chain_cls hcoq with hw | hc
    · obtain ⟨_, h4, h5⟩ := hT.write_keeps h0 hoq hcq hw
      refine h5 b hbq ?_
      have h6 := h4 _ (ur_spec (o := oq) ho (by omega) hna hir)
      rw [(hT.E q (by have := h.le; omega)).2.2.2 i (by omega)] at h6
      exact apartW_ne h6 htch
    · exact hK q (.inl ⟨by omega, h2⟩) oq hoq hc hcq (quiet_spec ho hna hna' hir) b hbq
  · rw [← hT.full_range hok hch hm hbm hncx hik (by omega) fun q oq h1 h2 hoq hcq => ?_]
    · exact hy
    obtain ⟨oq', hoq', hcoq, hgq⟩ := hcq
    rw [hoq] at hoq'; injection hoq' with hoq'; subst hoq'
    have hcq : ChX t kp T ops ds q := ⟨oq, hoq, hcoq, hgq⟩
    have hDq : ¬ D q := fun hd => by have := (h.chain q hcq).1 hd; omega
    have hna : anc ops i q = false := by
      cases ha : anc ops i q with
      | false => rfl
      | true => exact absurd (hanc q ha) hDq
    have hna' : anc ops q i = false := by
      cases ha : anc ops q i with
      | false => rfl
      | true => have := anc_lt hok hoq ha; omega
    have hbq : b < (ds q).C.next := Nat.lt_of_lt_of_le hbk (hT.mono h1 (by omega))
    rcases chain_cls hcoq with hw | hc
    · obtain ⟨_, h4, h5⟩ := hT.write_keeps h0 hoq hcq hw
      refine h5 b hbq ?_
      have h6 := hue _ (ue_spec (o := o) hoq h2 hna hcoq) (by unfold isCallC; rw [hw])
      rw [(hT.E i (by omega)).2.2.2 q h2] at h6
      exact apartW_ne h6 htch
    · exact hK q (.inr ⟨h1, h2⟩) oq hoq hc hcq (quiet_spec ho hna' hna hir) b hbq
end
end Go.Drip

/-
Regions that draw their order: calls and writes.
-/
set_option linter.unusedVariables false
set_option linter.unusedSimpArgs false
namespace Go.Drip
section
variable {kps : FuncId → Kp} {w w' : World} {c c' : Cx} {H G C' H' : AH}
/-- A step on a part of a heap is a step on the heap. -/
theorem Stp.back (hh : HR kps w c H) (hG : HR kps w c G) (hn : G.next = H.next) (hs : ∀ b x, c.D b → G.get b = some x → H.get b = some x) (hst : Stp kps w c G w' c' C') (hn' : H'.next = C'.next) (hp : H'.prot = H.prot)
    (hcase : ∀ b, b < maxH → (c.D b ∧ G.get b = none ∧ H'.get b = H.get b) ∨ H'.get b = C'.get b) (hkept : ∀ b, b < H.prot → H'.get b = H.get b) : Stp kps w c H w' c' H' := by
  have hmx' := hst.hr.max
  have hlt : ∀ b, c'.D b → b < maxH := fun b hb => Nat.lt_of_lt_of_le (hst.hr.N b hb) hmx'
  have stay : ∀ b x, c.D b → G.get b = none → H.get b = some x → w'.heap[c.blk b]? = w.heap[c.blk b]? ∧ ¬ c'.S (c.blk b) ∧ ∀ b' x', c'.D b' → C'.get b' = some x' → c'.blk b' ≠ c.blk b := by
    intro b x hb hg hx
    have hsz := (hh.blk b x hb hx).lt
    have hno : ∀ b0 x0, c.D b0 → G.get b0 = some x0 → c.blk b0 ≠ c.blk b := fun b0 x0 h1 h2 h3 => by
      have := hh.inj b0 b x0 x h1 hb (hs b0 x0 h1 h2) hx h3
      subst this; rw [hg] at h2; cases h2
    refine ⟨hst.frame _ hsz hno, fun hS => ?_, fun b' x' h1 h2 h3 => ?_⟩
    · rcases hst.ownS _ hS with h | ⟨b0, x0, h1, h2, h3⟩ | h
      · exact hh.own b x hb hx h
      · exact hno b0 x0 h1 h2 h3
      · omega
    · rcases hst.own b' x' h1 h2 with ⟨b0, x0, h4, h5, h6⟩ | h
      · exact hno b0 x0 h4 h5 (h6.trans h3)
      · omega
  have hnx := hst.next
  have hpr := hh.pr
  refine ⟨hst.same, hst.ext, ⟨fun b hb => ?_, ?_, ?_, fun b x hb hx => ?_, fun b x hb hx => ?_, fun b b' x x' hb hb' hx hx' he => ?_, hst.hr.cS⟩, fun k hk hno => ?_, fun b x hb hx => ?_, hp, fun k hk => ?_, fun b hb => ?_, ?_, hkept⟩
  · rw [hn']; exact hst.hr.N b hb
  · rw [hn']; exact hmx'
  · rw [hn', hp]; omega
  · rcases hcase b (hlt b hb) with ⟨h1, h2, h3⟩ | h3
    · rw [h3] at hx
      exact (hh.blk b x h1 hx).mono h1 hst.ext (hst.S hG) (stay b x h1 h2 hx).1
    · rw [h3] at hx; exact hst.hr.blk b x hb hx
  · rcases hcase b (hlt b hb) with ⟨h1, h2, h3⟩ | h3
    · rw [h3] at hx
      rw [hst.ext.blk b h1]; exact (stay b x h1 h2 hx).2.1
    · rw [h3] at hx; exact hst.hr.own b x hb hx
  · rcases hcase b (hlt b hb) with ⟨h1, h2, h3⟩ | h3 <;> rcases hcase b' (hlt b' hb') with ⟨h1', h2', h3'⟩ | h3' <;> rw [h3] at hx <;> rw [h3'] at hx'
    · rw [hst.ext.blk b h1, hst.ext.blk b' h1'] at he
      exact hh.inj b b' x x' h1 h1' hx hx' he
    · rw [hst.ext.blk b h1] at he
      exact absurd he.symm ((stay b x h1 h2 hx).2.2 b' x' hb' hx')
    · rw [hst.ext.blk b' h1'] at he
      exact absurd he ((stay b' x' h1' h2' hx').2.2 b x hb hx)
    · exact hst.hr.inj b b' x x' hb hb' hx hx' he
  · exact hst.frame k hk fun b x h1 h2 => hno b x h1 (hs b x h1 h2)
  · rcases hcase b (hlt b hb) with ⟨h1, h2, h3⟩ | h3
    · rw [h3] at hx
      exact .inl ⟨b, x, h1, hx, (hst.ext.blk b h1).symm⟩
    · rw [h3] at hx
      rcases hst.own b x hb hx with ⟨b0, x0, h1, h2, h4⟩ | h1
      · exact .inl ⟨b0, x0, h1, hs b0 x0 h1 h2, h4⟩
      · exact .inr h1
  · rcases hst.ownS k hk with h1 | ⟨b0, x0, h1, h2, h4⟩ | h1
    · exact .inl h1
    · exact .inr (.inl ⟨b0, x0, h1, hs b0 x0 h1 h2, h4⟩)
    · exact .inr (.inr h1)
  · rw [← hn]; exact hst.newD b hb
  · rw [hn', ← hn]; exact hnx
end

section
variable {P : Program} {t : Tab} {kp : Kp} {kps : FuncId → Kp} {run : Run} {rec : Rec} {T : Tr AV} {ops : List Oper} {ds : Nat → DS} {n : Nat} {w0 w : World} {c0 c : Cx} {H0 : AH} {df : List Deferred} {D D' : Nat → Prop} {a : Act} {k i : Nat} {o : Oper}

theorem InvD.at_full (hT : Trace t kp kps run ops rec H0.next T ds) (hm : H0.next + cntOf t ops ≤ maxH) (h : InvD kps t kp T ops ds n w0 c0 H0 df D a w c k) {b : Nat} (hb : c.D b) (hbm : b < maxH) : (heapD t kp T ops ds k D).get b = (full t kp T ops ds k).get b := by
  by_cases hx : ∃ j, NwX t kp T ops ds j ∧ ¬ Merged t kp T ops ds k j ∧ idOf ds j = b
  · obtain ⟨j, h1, h2, rfl⟩ := hx
    rw [hT.heap_in hm ((h.idD hT rfl h1).1 hb) h1 h2, hT.heap_in hm trivial h1 h2]
  · rw [hT.heap_out hm hbm fun j _ h1 h2 h3 => hx ⟨j, h1, h2, h3⟩, hT.heap_out hm hbm fun j _ h1 h2 h3 => hx ⟨j, h1, h2, h3⟩]

/-- Between what is done and the next call or write nothing is done. -/
theorem InvD.gap (hch : chainOk t (masks ops []) (numbered 0 ops) = true) (h : InvD kps t kp T ops ds n w0 c0 H0 df D a w c k) (hanc : ∀ j, anc ops i j = true → D j) (hnd : ¬ D i) (hc : ChX t kp T ops ds i) : k ≤ i ∧ ∀ q, k ≤ q → q < i → ¬ ChX t kp T ops ds q := by
  refine ⟨Nat.le_of_not_lt fun hlt => hnd ((h.chain i hc).2 hlt), fun q h1 h2 hq => ?_⟩
  obtain ⟨oi, hoi, hci, _⟩ := hc
  obtain ⟨oq, hoq, hcq, hgq⟩ := hq
  have hD := hanc q (chain_spec hch hoq hoi hcq hci h2)
  have := (h.chain q ⟨oq, hoq, hcq, hgq⟩).1 hD
  omega

theorem get_quietH (q : Bool) (C : AH) (b : Nat) : (quietH q C).get b = C.get b := by cases q <;> rfl
theorem quietH_next (q : Bool) (C : AH) : (quietH q C).next = C.next := by cases q <;> rfl

/-- What a call or a write sees. -/
theorem InvD.part (hT : Trace t kp kps run ops rec H0.next T ds) (hok : edgesOk 0 ops = true) (hch : chainOk t (masks ops []) (numbered 0 ops) = true) (hm : H0.next + cntOf t ops ≤ maxH) (h0 : (ds 0).C.next ≤ maxH)
    (h : InvD kps t kp T ops ds n w0 c0 H0 df D a w c k) (ho : ops[i]? = some o) (hanc : ∀ j, anc ops i j = true → D j) (hnd : ¬ D i) (hc : ChX t kp T ops ds i) :
    (ds i).C.next = (heapD t kp T ops ds k D).next ∧ (ds i).C.prot = (heapD t kp T ops ds k D).prot ∧ ∀ b x, c.D b → (view (recOf t ops i o) H0.next (ds i)).get b = some x → (heapD t kp T ops ds k D).get b = some x := by
  have hi := (List.getElem?_eq_some_iff.1 ho).1
  obtain ⟨hki, hgap⟩ := h.gap hch hanc hnd hc
  have hf1 := heapD_fields (t := t) (kp := kp) (T := T) (ops := ops) (ds := ds) i D
  have hr : heapD t kp T ops ds i D = heapD t kp T ops ds k D := hT.heap_range hki (by omega) hgap
  rw [← hr]
  refine ⟨hf1.1.symm, hf1.2.symm, fun b x hb hx => ?_⟩
  rw [hr]
  have hbm : b < maxH := Nat.lt_of_lt_of_le (h.stp.hr.N b hb) h.stp.hr.max
  rw [hT.view_get hok hm ho hbm] at hx
  split at hx
  · cases hx
  rw [h.at_full hT hm hb hbm]
  rw [← hx]
  unfold full
  rw [hT.heap_range hki (by omega) hgap]

theorem InvD.after (hT : Trace t kp kps run ops rec H0.next T ds) (hok : edgesOk 0 ops = true) (hch : chainOk t (masks ops []) (numbered 0 ops) = true) (hm : H0.next + cntOf t ops ≤ maxH) (h0 : (ds 0).C.next ≤ maxH) (hp0 : H0.prot ≤ H0.next)
    (h : InvD kps t kp T ops ds n w0 c0 H0 df D a w c k) (hds : Dsts kp n ops) (hcl : Closed ops D) (ho : ops[i]? = some o) (hanc : ∀ j, anc ops i j = true → D j) (hnd : ¬ D i) (hD : ∀ j, D' j ↔ D j ∨ j = i) (hc : ChX t kp T ops ds i)
    {G C' : AH} {w' : World} {c' : Cx} (hGn : G.next = (ds i).C.next) (hGg : ∀ b, G.get b = (view (recOf t ops i o) H0.next (ds i)).get b) (hGp : (ds i).C.prot ≤ G.prot) (hG : HR kps w c G) (hst : Stp kps w c G w' c' C')
    (hC : (ds (i + 1)).C.next = C'.next ∧ (ds (i + 1)).C.prot = (ds i).C.prot ∧ ∀ b, (ds (i + 1)).C.get b = C'.get b) {u : Value} (hv : VR w' c' (valOf ds i) u) : InvD kps t kp T ops ds n w0 c0 H0 df D' (a.put o.dst u) w' c' (i + 1) := by
  have hi := (List.getElem?_eq_some_iff.1 ho).1
  obtain ⟨hki, hgap⟩ := h.gap hch hanc hnd hc
  obtain ⟨hpn, hpp, hsub⟩ := h.part hT hok hch hm h0 ho hanc hnd hc
  have hh := h.stp.hr
  have hmono := hT.mono hki (by omega)
  have hmono' : (ds i).C.next ≤ (ds (i + 1)).C.next := hT.mono (Nat.le_succ i) (by omega)
  have hnx := h.nx
  have hf' := heapD_fields (t := t) (kp := kp) (T := T) (ops := ops) (ds := ds) (i + 1) D'
  have hstp0 := h.stp.prot
  have hback : Stp kps w c (heapD t kp T ops ds k D) w' c' (heapD t kp T ops ds (i + 1) D') := by
    refine Stp.back hh hG (by rw [hGn, hpn]) (fun b x hb hx => hsub b x hb (by rw [← hGg]; exact hx)) hst (by rw [hf'.1, hC.1]) (by rw [hf'.2, hC.2.1, hpp]) (fun b hb => ?_) fun b hb => ?_
    · by_cases hx : ∃ j, D' j ∧ NwX t kp T ops ds j ∧ ¬ Merged t kp T ops ds (i + 1) j ∧ idOf ds j = b
      · obtain ⟨j, h1, h2, h3, rfl⟩ := hx
        have hDj : D j := ((hD j).1 h1).resolve_right fun e => by subst e; exact not_both hc h2
        have hna : anc ops i j = false := by
          cases ha : anc ops i j with
          | false => rfl
          | true => exact absurd ⟨i, Nat.lt_succ_self _, hc, ha⟩ h3
        obtain ⟨o', q', _, _, h6, h7, _, _⟩ := hT.id_spec h2
        refine .inl ⟨(h.idD hT rfl h2).2 hDj, ?_, ?_⟩
        · rw [hGg, hT.view_get hok hm ho hb, if_pos ⟨j, q', h7, hna, h6.symm⟩]
        · rw [hT.heap_in hm h1 h2 h3, hT.heap_in hm hDj h2 fun hmg => h3 (hmg.up (by omega))]
      · right
        rw [hT.heap_out hm hb fun j h1 h2 h3 h4 => hx ⟨j, h1, h2, h3, h4⟩]
        exact hC.2.2 b
    · have hbp : b < H0.prot := by rw [← hstp0]; exact hb
      have hbm : b < maxH := by omega
      have hid : ∀ j, NwX t kp T ops ds j → idOf ds j ≠ b := fun j hj e => by have := (hT.id_lt hj).1; omega
      rw [hT.heap_out hm hbm fun j _ h2 _ => hid j h2, hC.2.2, hst.kept b (by rw [← hpp] at hb; omega), hGg, hT.view_get hok hm ho hbm, if_neg fun ⟨j, q, _, _, h3⟩ => by omega]
      unfold full
      rw [hT.heap_out hm hbm fun j _ h2 _ => hid j h2, ← hT.heap_range hki (by omega) hgap, hT.heap_out hm hbm fun j _ h2 _ => hid j h2]
  refine ⟨by omega, fun q hq => ?_, h.stp.trans hback, ?_, (put_defers _ _ _).trans h.defers, ?_, fun j oj d hj hDj hd => ?_, fun j q hj => ?_, by omega, fun x ox d hx hd hnx => ?_⟩
  · rw [hD, h.chain q hq]
    constructor
    · rintro (h1 | rfl) <;> omega
    · intro h1
      by_cases e : q = i
      · exact .inr e
      · left
        exact Nat.lt_of_not_le fun h2 => hgap q h2 (by omega) hq
  · cases hd : o.dst with
    | none => exact h.size
    | some d => simp [Act.put, h.size]
  · cases hd : o.dst with
    | none => exact h.tr.step hh hback
    | some d =>
      obtain ⟨h1, h2⟩ := hds.out i o d ho hd
      exact (h.tr.step hh hback).other (by rw [h.size]; exact h2) h1
  · cases hdi : o.dst with
    | none =>
      show VR w' c' _ (a.tmps.getD d undef)
      rcases (hD j).1 hDj with h1 | rfl
      · exact (h.vals j oj d hj h1 hd).step hh hback
      · rw [ho] at hj; injection hj with hj; subst hj; rw [hdi] at hd; cases hd
    | some d' =>
      obtain ⟨_, h2⟩ := hds.out i o d' ho hdi
      show VR w' c' _ ((a.tmps.setIfInBounds d' u).getD d undef)
      rw [getD_set u (by rw [h.size]; exact h2)]
      by_cases e : d = d'
      · subst e
        rw [if_pos rfl]
        have : i = j := hds.one i j o oj d ho hj hdi hd
        subst this; exact hv
      · rw [if_neg e]
        rcases (hD j).1 hDj with h1 | rfl
        · exact (h.vals j oj d hj h1 hd).step hh hback
        · rw [ho] at hj; injection hj with hj; subst hj; rw [hdi] at hd; injection hd with hd; exact absurd hd.symm e
  · have hlt := (ranks_lt t hj).2
    unfold cntOf at hnx
    constructor
    · intro h1
      rcases hst.newD _ h1 with h2 | h2
      · obtain ⟨h3, h4⟩ := (h.ids j q hj).1 h2
        exact ⟨(hD j).2 (.inl h3), h4⟩
      · omega
    · rintro ⟨h1, h2⟩
      have hDj : D j := ((hD j).1 h1).resolve_right fun e => by subst e; exact not_both hc h2
      exact hst.ext.D _ ((h.ids j q hj).2 ⟨hDj, h2⟩)
  · rw [hds.put h.size ho hx hd fun e => hnx ((hD x).2 (.inr e))]
    exact (h.olds x ox d hx hd fun hDx => hnx ((hD x).2 (.inl hDx))).step hh hback

/-- A call or a write. -/
theorem InvD.chained (ht : t.Ok P) (hrun : RunOk kps P run) (hrec : RecOk kps P rec) (hT : Trace t kp kps run ops rec H0.next T ds) (hok : edgesOk 0 ops = true) (hch : chainOk t (masks ops []) (numbered 0 ops) = true) (hm : H0.next + cntOf t ops ≤ maxH)
    (h0 : (ds 0).C.next ≤ maxH) (hp0 : H0.prot ≤ H0.next) (h : InvD kps t kp T ops ds n w0 c0 H0 df D a w c k) (hds : Dsts kp n ops) (hcl : Closed ops D) (ho : ops[i]? = some o) (hanc : ∀ j, anc ops i j = true → D j) (hnd : ¬ D i)
    (hD : ∀ j, D' j ↔ D j ∨ j = i) (hc : ChX t kp T ops ds i) :
    (∀ d, o.op ≠ .defer d) ∧ OpTo P a w o fun u w' => (∃ c', InvD kps t kp T ops ds n w0 c0 H0 df D' (a.put o.dst u) w' c' (i + 1)) ∧ KeptC t kp T ops H0.next ds i := by
  have hA := h.env hT ho hanc hok hcl hnd
  obtain ⟨hpn, hpp, hsub⟩ := h.part hT hok hch hm h0 ho hanc hnd hc
  have hh := h.stp.hr
  have hvf := view_fields (base := H0.next) (recOf t ops i o) (ds i)
  obtain ⟨o', ho', hco, hg⟩ := id hc
  rw [ho] at ho'; injection ho' with ho'; subst ho'
  have hd := (hT.step i o ho).goes hg
  have hafter := fun {G C' : AH} {w' : World} {c' : Cx} => h.after (D' := D') hT hok hch hm h0 hp0 hds hcl ho hanc hnd hD hc (G := G) (C' := C') (w' := w') (c' := c')
  unfold KeptC
  have hval : valOf ds i = opt (nth (ds (i + 1)).E 0) .any fun x => x := rfl
  rw [hval] at hafter
  generalize ds (i + 1) = d' at *
  have hpr := hh.pr
  cases hd with
  | write v C hcl' hx hu hlt hn hmx =>
    have hcl2 : clsOf t o.op = .write := hcl'
    have hG : HR kps w c (view (recOf t ops i o) H0.next (ds i)) := hh.sub (by rw [hvf.1, hpn]) (by rw [hvf.2, hpp]; exact hpr) hsub
    have hx2 : (opWrite t kp o.op).f (envR (recOf t ops i o).us (ds i).E) T (view (recOf t ops i o) H0.next (ds i)) = .ok v C := hx
    obtain ⟨u, w', c', hr, hv, hst⟩ := opWrite_sound ht hG hA hx2
    refine ⟨fun d hd => (by rw [hd] at hx2; cases hx2), ?_⟩
    have hI := hafter hvf.1 (fun b => rfl) (by rw [hvf.2]; exact Nat.le_refl _) hG hst ⟨rfl, by show C.prot = _; rw [hst.prot, hvf.2], fun b => rfl⟩ hv
    have hK : ∀ o', ops[i]? = some o' → clsOf t o'.op = .call → ChX t kp T ops ds i → (recOf t ops i o').quiet = true → ∀ b, b < (ds i).C.next → C.get b = (view (recOf t ops i o') H0.next (ds i)).get b := fun o' ho' hcc => by
      rw [ho] at ho'; injection ho' with ho'; subst ho'; rw [hcl2] at hcc; cases hcc
    rcases hr with hr | ⟨hr, rfl⟩
    · exact .value u w' hr ⟨⟨c', hI⟩, hK⟩
    · exact .skip w' hr ⟨⟨c', hI⟩, hK⟩
  | call v C hcl' hx hu hn hmx =>
    have hqn := quietH_next (recOf t ops i o).quiet (view (recOf t ops i o) H0.next (ds i))
    have hqp : (ds i).C.prot ≤ (quietH (recOf t ops i o).quiet (view (recOf t ops i o) H0.next (ds i))).prot ∧ (quietH (recOf t ops i o).quiet (view (recOf t ops i o) H0.next (ds i))).prot ≤ (ds i).C.next := by
      cases (recOf t ops i o).quiet with
      | false => exact ⟨Nat.le_of_eq hvf.2.symm, by show (view _ _ _).prot ≤ _; rw [hvf.2]; omega⟩
      | true => exact ⟨by show _ ≤ (view _ _ _).next; rw [hvf.1]; omega, by show (view _ _ _).next ≤ _; rw [hvf.1]; exact Nat.le_refl _⟩
    have hG : HR kps w c (quietH (recOf t ops i o).quiet (view (recOf t ops i o) H0.next (ds i))) := hh.sub (by rw [hqn, hvf.1, hpn]) (by rw [← hpn]; exact hqp.2) fun b x hb hx => hsub b x hb (by rw [← get_quietH]; exact hx)
    have hx2 : (opCall kp kps run o.op).f rec (envR (recOf t ops i o).us (ds i).E) T (quietH (recOf t ops i o).quiet (view (recOf t ops i o) H0.next (ds i))) = .ok v C := hx
    refine ⟨call_nodefer hx2, call_to hrun hrec hG hA hx2 fun u w' c' hv hst => ⟨⟨c', ?_⟩, fun o' ho' hcc _ hq b hb => ?_⟩⟩
    · exact hafter (by rw [hqn, hvf.1]) (get_quietH _ _) hqp.1 hG hst ⟨rfl, rfl, fun b => rfl⟩ hv
    · rw [ho] at ho'; injection ho' with ho'; subst ho'
      have := hst.kept b (by rw [hq]; show b < (view _ _ _).next; rw [hvf.1]; exact hb)
      rw [get_quietH] at this
      exact this
  | pure v hc' _ => rcases chain_cls hco with h | h <;> rw [show clsOf t o.op = _ from hc'] at h <;> cases h
  | read v hc' _ _ _ => rcases chain_cls hco with h | h <;> rw [show clsOf t o.op = _ from hc'] at h <;> cases h
  | new x hc' _ => rcases chain_cls hco with h | h <;> rw [show clsOf t o.op = _ from hc'] at h <;> cases h
end
end Go.Drip

/-
Regions that draw their order: one operation, in any order; what calls keep.
-/
set_option linter.unusedVariables false
set_option linter.unusedSimpArgs false
namespace Go.Drip
section
variable {P : Program} {t : Tab} {kp : Kp} {kps : FuncId → Kp} {run : Run} {rec : Rec} {base : Nat} {T : Tr AV} {ops : List Oper} {ds : Nat → DS} {n : Nat} {w0 w : World} {c0 c : Cx} {H0 : AH} {df : List Deferred} {D D' : Nat → Prop} {a : Act} {k i : Nat} {o : Oper}

theorem Trace.pure_facts (h : Trace t kp kps run ops rec base T ds) (ho : ops[i]? = some o) (hg : Goes kp T ops (recOf t ops i o) (ds i)) (hr : clsOf t o.op = .pure) :
    (opPure t kp o.op).f (envR (recOf t ops i o).us (ds i).E) T = some (valOf ds i) := by
  have hd := (h.step i o ho).goes hg
  unfold valOf
  generalize ds (i + 1) = d' at *
  cases hd with
  | pure v hc hx => exact hx
  | read v hc _ _ _ => rw [show clsOf t o.op = _ from hc] at hr; cases hr
  | new x hc _ => rw [show clsOf t o.op = _ from hc] at hr; cases hr
  | write v C hc _ _ _ _ _ => rw [show clsOf t o.op = _ from hc] at hr; cases hr
  | call v C hc _ _ _ _ => rw [show clsOf t o.op = _ from hc] at hr; cases hr
theorem Trace.skip_val (h : Trace t kp kps run ops rec base T ds) (ho : ops[i]? = some o) (hg : ¬ Goes kp T ops (recOf t ops i o) (ds i)) : valOf ds i = undefA := by
  unfold valOf
  rw [(h.step i o ho).stays hg]; rfl

theorem not_chain (ho : ops[i]? = some o) (h : isChain t o = false) : ¬ ChX t kp T ops ds i := fun ⟨o', h1, h2, _⟩ => by
  rw [ho] at h1; injection h1 with h1; subst h1; rw [h] at h2; cases h2
theorem not_new (ho : ops[i]? = some o) (h : isNew t o = false) : ¬ NwX t kp T ops ds i := fun ⟨o', h1, h2, _⟩ => by
  rw [ho] at h1; injection h1 with h1; subst h1; rw [h] at h2; cases h2

/-- One operation. -/
theorem InvD.step (ht : t.Ok P) (hrun : RunOk kps P run) (hrec : RecOk kps P rec) (hT : Trace t kp kps run ops rec H0.next T ds) (hok : edgesOk 0 ops = true) (hch : chainOk t (masks ops []) (numbered 0 ops) = true) (hm : H0.next + cntOf t ops ≤ maxH)
    (h0 : (ds 0).C.next ≤ maxH) (hp0 : H0.prot ≤ H0.next) (h : InvD kps t kp T ops ds n w0 c0 H0 df D a w c k) (hds : Dsts kp n ops) (hcl : Closed ops D) (ho : ops[i]? = some o) (hanc : ∀ j, anc ops i j = true → D j) (hnd : ¬ D i)
    (hD : ∀ j, D' j ↔ D j ∨ j = i) (hK : ∀ q, (i < q ∧ q < k) ∨ (k ≤ q ∧ q < i) → KeptC t kp T ops H0.next ds q) :
    (Goes kp T ops (recOf t ops i o) (ds i) → (∀ d, o.op ≠ .defer d) ∧ OpTo P a w o fun u w' => ∃ c' k', (k' = k ∨ k' = i + 1) ∧ InvD kps t kp T ops ds n w0 c0 H0 df D' (a.put o.dst u) w' c' k') ∧
    (¬ Goes kp T ops (recOf t ops i o) (ds i) → InvD kps t kp T ops ds n w0 c0 H0 df D' (a.put o.dst undef) w c k) := by
  have hA := h.env hT ho hanc hok hcl hnd
  constructor
  · intro hg
    cases hcls : clsOf t o.op with
    | pure =>
      have hx := hT.pure_facts ho hg hcls
      obtain ⟨u, hr, hv⟩ := opPure_sound ht hA hx
      exact ⟨fun d hd => (by rw [hd] at hx; cases hx), .value u w hr ⟨c, k, .inl rfl, h.put hds ho hD (not_chain ho (by unfold isChain; rw [hcls])) (not_new ho (by unfold isNew; rw [hcls])) hv⟩⟩
    | read =>
      obtain ⟨_, hx, _, _⟩ := hT.read_facts ho hg hcls
      have hx2 := read_local (H2 := heapD t kp T ops ds k D) (fun b y hb hy => h.read_at hT hok hch hm h0 hcl ho hanc hnd hcls hg hK hb hy) hx
      obtain ⟨u, hr, hv⟩ := opRead_sound ht h.stp.hr hA hx2
      exact ⟨not_defer (t := t) (by rw [hcls]; intro e; cases e), .value u w hr ⟨c, k, .inl rfl, h.put hds ho hD (not_chain ho (by unfold isChain; rw [hcls])) (not_new ho (by unfold isNew; rw [hcls])) hv⟩⟩
    | new =>
      obtain ⟨u, w', c', hr, hI⟩ := h.newly ht hT hok hm hp0 hds hcl ho hanc hnd hD ⟨o, ho, by unfold isNew; rw [hcls], hg⟩
      exact ⟨not_defer (t := t) (by rw [hcls]; intro e; cases e), .value u w' hr ⟨c', k, .inl rfl, hI⟩⟩
    | write =>
      obtain ⟨h1, h2⟩ := h.chained ht hrun hrec hT hok hch hm h0 hp0 hds hcl ho hanc hnd hD ⟨o, ho, by unfold isChain; rw [hcls], hg⟩
      exact ⟨h1, h2.mono fun u w' ⟨⟨c', hI⟩, _⟩ => ⟨c', i + 1, .inr rfl, hI⟩⟩
    | call =>
      obtain ⟨h1, h2⟩ := h.chained ht hrun hrec hT hok hch hm h0 hp0 hds hcl ho hanc hnd hD ⟨o, ho, by unfold isChain; rw [hcls], hg⟩
      exact ⟨h1, h2.mono fun u w' ⟨⟨c', hI⟩, _⟩ => ⟨c', i + 1, .inr rfl, hI⟩⟩
  · intro hg
    refine h.put hds ho hD (fun ⟨o', h1, h2, h3⟩ => ?_) (fun ⟨o', h1, h2, h3⟩ => ?_) (by rw [hT.skip_val ho hg]; exact .und)
    · rw [ho] at h1; injection h1 with h1; subst h1; exact hg h3
    · rw [ho] at h1; injection h1 with h1; subst h1; exact hg h3

theorem closed_below (hok : edgesOk 0 ops = true) (i : Nat) : Closed ops fun j => j < i := fun x ox hx hlt e he hb => by
  have := edgesOk_at hok x ox hx e he hb
  show e.on < i
  have hlt : x < i := hlt
  omega

/-- The run in the order of the text. -/
theorem Trace.canon (ht : t.Ok P) (hrun : RunOk kps P run) (hrec : RecOk kps P rec) (hT : Trace t kp kps run ops rec H0.next T ds) (hok : edgesOk 0 ops = true) (hch : chainOk t (masks ops []) (numbered 0 ops) = true) (hm : H0.next + cntOf t ops ≤ maxH)
    (h0 : (ds 0).C.next ≤ maxH) (hp0 : H0.prot ≤ H0.next) (hds : Dsts kp n ops) (hs : InvD kps t kp T ops ds n w0 c0 H0 df (fun j => j < 0) a w c 0) :
    ∀ i, i ≤ ops.length → ∃ a w c k, k ≤ i ∧ InvD kps t kp T ops ds n w0 c0 H0 df (fun j => j < i) a w c k := by
  intro i
  induction i with
  | zero => exact fun _ => ⟨a, w, c, 0, Nat.le_refl _, hs⟩
  | succ i ih =>
    intro hi
    obtain ⟨a, w, c, k, hk, h⟩ := ih (by omega)
    have ho := List.getElem?_eq_getElem (l := ops) (i := i) (by omega)
    obtain ⟨h1, h2⟩ := h.step (D' := fun j => j < i + 1) ht hrun hrec hT hok hch hm h0 hp0 hds (closed_below hok i) ho (fun j hj => anc_lt hok ho hj) (Nat.lt_irrefl i) (fun j => by omega) fun q hq o' ho' hcc hcx => by
      exfalso
      have := h.chain q hcx
      omega
    by_cases hg : Goes kp T ops (recOf t ops i ops[i]) (ds i)
    · obtain ⟨u, w', c', k', hk', hI⟩ := (h1 hg).2.ex
      exact ⟨_, w', c', k', by omega, hI⟩
    · exact ⟨_, w, c, k, by omega, h2 hg⟩

/-- What calls keep. -/
theorem Trace.kept (ht : t.Ok P) (hrun : RunOk kps P run) (hrec : RecOk kps P rec) (hT : Trace t kp kps run ops rec H0.next T ds) (hok : edgesOk 0 ops = true) (hch : chainOk t (masks ops []) (numbered 0 ops) = true) (hm : H0.next + cntOf t ops ≤ maxH)
    (h0 : (ds 0).C.next ≤ maxH) (hp0 : H0.prot ≤ H0.next) (hds : Dsts kp n ops) (hs : InvD kps t kp T ops ds n w0 c0 H0 df (fun j => j < 0) a w c 0) (q : Nat) : KeptC t kp T ops H0.next ds q := fun o ho hcc hcx hq => by
  have hi := (List.getElem?_eq_some_iff.1 ho).1
  obtain ⟨a', w', c', k', hk, h⟩ := hT.canon ht hrun hrec hok hch hm h0 hp0 hds hs q (by omega)
  obtain ⟨_, _, _, hK⟩ := (h.chained (D' := fun j => j < q + 1) ht hrun hrec hT hok hch hm h0 hp0 hds (closed_below hok q) ho (fun j hj => anc_lt hok ho hj) (Nat.lt_irrefl q) (fun j => by omega) hcx).2.ex
  exact hK o ho hcc hcx hq

/-! ### Guards -/
theorem wanted_env (hA : AR w c n kp (envR (recOf t ops i o).us (ds i).E) T a) {opsA : Array Oper} (hops : opsA.toList = ops) {j : Nat} {want : Bool} (hg : o.guard = some (j, want)) {g : Tmp × Bool} (hgo : guardOf ops j want = some g) {b : Bool}
    (hb : wanted g.2 ((getS kp g.1).f (envR (recOf t ops i o).us (ds i).E) T) = some b) : Region.wanted o (yielded opsA a.tmps) = b := by
  subst hops
  obtain ⟨gi, hgi, hgd⟩ := ob_some hgo
  obtain ⟨d, hd, hge⟩ := ob_some hgd
  injection hge with hge; subst hge
  simp only [nth_eq, Array.getElem?_toList] at hgi
  have hws := wanted_sound (getS_sound hA d) hb
  simp only [Region.wanted, hg, yielded, hgi, Option.bind_some, hd]
  exact hws
theorem wanted_none {opsA : Array Oper} (hops : opsA.toList = ops) {j : Nat} {want : Bool} (hg : o.guard = some (j, want)) (hgo : guardOf ops j want = none) (tm : Array Value) : Region.wanted o (yielded opsA tm) = false := by
  subst hops
  have hy : yielded opsA tm j = none := by
    unfold yielded
    cases hj : opsA[j]? with
    | none => simp
    | some g =>
      unfold guardOf at hgo
      simp only [nth_eq, Array.getElem?_toList, hj] at hgo
      change (ob g.dst fun d => some (d, want)) = none at hgo
      cases hd : g.dst with
      | none => simp [hd]
      | some d => rw [hd] at hgo; cases hgo
  simp [Region.wanted, hg, hy]
theorem Trace.wanted (h : Trace t kp kps run ops rec base T ds) (ho : ops[i]? = some o) (hA : AR w c n kp (envR (recOf t ops i o).us (ds i).E) T a) {opsA : Array Oper} (hops : opsA.toList = ops) :
    (Goes kp T ops (recOf t ops i o) (ds i) → Region.wanted o (yielded opsA a.tmps) = true) ∧ (¬ Goes kp T ops (recOf t ops i o) (ds i) → Region.wanted o (yielded opsA a.tmps) = false) := by
  constructor
  · rintro (hg | ⟨j, want, g, h1, h2, h3⟩)
    · have hg : o.guard = none := hg
      simp [Region.wanted, hg]
    · exact wanted_env hA hops h1 h2 h3
  · intro hg
    have hs := h.step i o ho
    generalize ds (i + 1) = d' at hs
    cases hs with
    | go d' hg' _ => exact absurd hg' hg
    | skip hs =>
      obtain ⟨j, want, h1, h2 | ⟨g, h2, h3⟩⟩ := hs
      · exact wanted_none hops h1 h2 _
      · exact wanted_env hA hops h1 h2 h3
end
end Go.Drip

/-
Regions that draw their order: what is kept of the temporaries; the whole region.
-/
set_option linter.unusedVariables false
set_option linter.unusedSimpArgs false
namespace Go.Drip

theorem posIn_iff {l : List Nat} {i j : Nat} : posIn l i = some j ↔ l[j]? = some i ∧ ∀ j', j' < j → l[j']? ≠ some i := by
  have key : ∀ (l : List Nat) (k j : Nat), (@List.rec Nat (fun _ => Nat → Option Nat) (fun _ => none) (fun a _ ih n => cnd (Nat.beq a i) (some n) (ih (Nat.succ n))) l k) = some j ↔ ∃ d, j = k + d ∧ l[d]? = some i ∧ ∀ d', d' < d → l[d']? ≠ some i := by
    intro l
    induction l with
    | nil => intro k j; exact ⟨fun h => (by cases h), fun ⟨d, _, h, _⟩ => (by simp at h)⟩
    | cons x l ih =>
      intro k j
      have e : (@List.rec Nat (fun _ => Nat → Option Nat) (fun _ => none) (fun a _ ih n => cnd (Nat.beq a i) (some n) (ih (Nat.succ n))) (x :: l) k) = cnd (Nat.beq x i) (some k) (@List.rec Nat (fun _ => Nat → Option Nat) (fun _ => none) (fun a _ ih n => cnd (Nat.beq a i) (some n) (ih (Nat.succ n))) l (k + 1)) := rfl
      rw [e]
      cases hx : Nat.beq x i with
      | true =>
        have hxi := Nat.eq_of_beq_eq_true hx
        constructor
        · intro h
          injection h with h
          exact ⟨0, by omega, by simp [hxi], fun d' hd => by omega⟩
        · rintro ⟨d, h1, h2, h3⟩
          have : d = 0 := Nat.eq_zero_of_not_pos fun hp => h3 0 hp (by simp [hxi])
          subst this
          show some k = some j
          rw [h1]; rfl
      | false =>
        have hxi : x ≠ i := fun e => by subst e; rw [Nat.beq_refl] at hx; cases hx
        show _ = some j ↔ _
        rw [cnd_false, ih]
        constructor
        · rintro ⟨d, h1, h2, h3⟩
          refine ⟨d + 1, by omega, by simpa using h2, fun d' hd => ?_⟩
          cases d' with
          | zero => simpa using hxi
          | succ d' => simpa using h3 d' (by omega)
        · rintro ⟨d, h1, h2, h3⟩
          cases d with
          | zero => simp at h2; exact absurd h2 hxi
          | succ d => exact ⟨d, by omega, by simpa using h2, fun d' hd => by simpa using h3 (d' + 1) (by omega)⟩
  unfold posIn
  rw [key]
  constructor
  · rintro ⟨d, h1, h2, h3⟩
    have : j = d := by omega
    subst this; exact ⟨h2, h3⟩
  · rintro ⟨h1, h2⟩; exact ⟨j, by omega, h1, h2⟩
theorem posIn_ex {l : List Nat} {i j : Nat} (h : l[j]? = some i) : ∃ j', posIn l i = some j' := by
  induction j using Nat.strongRecOn with
  | ind j ih =>
    by_cases hx : ∃ j', j' < j ∧ l[j']? = some i
    · obtain ⟨j', h1, h2⟩ := hx; exact ih j' h1 h2
    · exact ⟨j, posIn_iff.2 ⟨h, fun j' h1 h2 => hx ⟨j', h1, h2⟩⟩⟩

section
variable {kp : Kp} {n : Nat}
theorem kpOut_get {ds : List Tmp} (j : Nat) : (kpOut kp n ds).l[j]? = (kp.l[j]?).map fun i => if ds.contains i then n else i := by simp [kpOut]
theorem kpOut_k {ds : List Tmp} : (kpOut kp n ds).k = kp.k := rfl
theorem kpOut_fits {ds : List Tmp} (j : Nat) : fits (kpOut kp n ds) j = fits kp j := rfl
theorem kpOut_same {ds : List Tmp} {i j : Nat} (hi : i ∉ ds) (hn : i ≠ n) : posIn (kpOut kp n ds).l i = some j ↔ posIn kp.l i = some j := by
  have e : ∀ j : Nat, (kpOut kp n ds).l[j]? = some i ↔ kp.l[j]? = some i := fun j => by
    rw [kpOut_get]
    cases h : kp.l[j]? with
    | none => simp
    | some x =>
      simp only [Option.map_some, Option.some.injEq]
      by_cases hx : ds.contains x
      · rw [if_pos hx]
        have hm : x ∈ ds := by simpa using hx
        exact ⟨fun h => absurd h.symm hn, fun h => absurd (h ▸ hm) hi⟩
      · rw [if_neg hx]
  rw [posIn_iff, posIn_iff, e]
  exact ⟨fun ⟨h1, h2⟩ => ⟨h1, fun j' h3 h4 => h2 j' h3 ((e j').2 h4)⟩, fun ⟨h1, h2⟩ => ⟨h1, fun j' h3 h4 => h2 j' h3 ((e j').1 h4)⟩⟩
theorem kpOut_none {ds : List Tmp} {i : Nat} (hi : i ∈ ds) (hn : i < n) : posIn (kpOut kp n ds).l i = none := by
  cases h : posIn (kpOut kp n ds).l i with
  | none => rfl
  | some j =>
    exfalso
    have h1 := posIn_some h
    rw [kpOut_get] at h1
    cases h2 : kp.l[j]? with
    | none => rw [h2] at h1; simp at h1
    | some x =>
      rw [h2] at h1
      simp only [Option.map_some, Option.some.injEq] at h1
      by_cases hx : ds.contains x
      · rw [if_pos hx] at h1; omega
      · rw [if_neg hx] at h1; subst h1; exact hx (by simpa using hi)
theorem kpOut_sent {ds : List Tmp} {j : Nat} (hds : ∀ d ∈ ds, d < n) (h : posIn (kpOut kp n ds).l n = some j) : (∃ d, d ∈ ds ∧ posIn kp.l d = some j) ∨ posIn kp.l n = some j := by
  obtain ⟨h1, h2⟩ := posIn_iff.1 h
  have hb : ∀ j', j' < j → ∀ x, kp.l[j']? = some x → x ≠ n ∧ x ∉ ds := fun j' hj x hx => by
    have := h2 j' hj
    rw [kpOut_get, hx] at this
    simp only [Option.map_some, ne_eq, Option.some.injEq] at this
    by_cases hc : ds.contains x
    · rw [if_pos hc] at this; exact absurd rfl this
    · rw [if_neg hc] at this; exact ⟨this, by simpa using hc⟩
  rw [kpOut_get] at h1
  cases hx : kp.l[j]? with
  | none => rw [hx] at h1; simp at h1
  | some x =>
    rw [hx] at h1
    simp only [Option.map_some, Option.some.injEq] at h1
    by_cases hc : ds.contains x
    · left
      have hm : x ∈ ds := by simpa using hc
      exact ⟨x, hm, posIn_iff.2 ⟨hx, fun j' hj he => (hb j' hj x he).2 hm⟩⟩
    · right
      rw [if_neg hc] at h1; subst h1
      exact posIn_iff.2 ⟨hx, fun j' hj he => (hb j' hj x he).1 rfl⟩

theorem keptD_spec {len : Nat} : ∀ {l : List (Nat × Oper)} {ks : List (Nat × Nat)}, keptD kp n len l = some ks →
    (∀ i o d, (i, o) ∈ l → o.dst = some d → d < n) ∧ (∀ v j, (v, j) ∈ ks → ∃ i o d, (i, o) ∈ l ∧ o.dst = some d ∧ posIn kp.l d = some j ∧ fits kp j = true ∧ v = len - 1 - i) ∧
    ∀ i o d j, (i, o) ∈ l → o.dst = some d → posIn kp.l d = some j → (len - 1 - i, j) ∈ ks := by
  intro l
  induction l with
  | nil => intro ks h; injection h with h; subst h; exact ⟨fun i o d h => (by cases h), fun v j h => (by cases h), fun i o d j h => (by cases h)⟩
  | cons b l ih =>
    intro ks h
    obtain ⟨bi, bo⟩ := b
    unfold keptD at h
    simp only at h
    cases hd : bo.dst with
    | none =>
      rw [hd] at h
      obtain ⟨h1, h2, h3⟩ := ih h
      refine ⟨fun i o d hm hod => ?_, fun v j hm => ?_, fun i o d j hm hod hp => ?_⟩
      · cases hm with
        | head => rw [hd] at hod; cases hod
        | tail _ hm => exact h1 i o d hm hod
      · obtain ⟨i, o, d, g1, g2⟩ := h2 v j hm
        exact ⟨i, o, d, .tail _ g1, g2⟩
      · cases hm with
        | head => rw [hd] at hod; cases hod
        | tail _ hm => exact h3 i o d j hm hod hp
    | some bd =>
      rw [hd] at h
      obtain ⟨hlt, h⟩ := cnd_some h
      have hlt : bd < n := Nat.le_of_ble_eq_true hlt
      cases hp0 : posIn kp.l bd with
      | none =>
        rw [hp0] at h
        obtain ⟨h1, h2, h3⟩ := ih h
        refine ⟨fun i o d hm hod => ?_, fun v j hm => ?_, fun i o d j hm hod hp => ?_⟩
        · cases hm with
          | head => rw [hd] at hod; injection hod with hod; subst hod; exact hlt
          | tail _ hm => exact h1 i o d hm hod
        · obtain ⟨i, o, d, g1, g2⟩ := h2 v j hm
          exact ⟨i, o, d, .tail _ g1, g2⟩
        · cases hm with
          | head => rw [hd] at hod; injection hod with hod; subst hod; rw [hp0] at hp; cases hp
          | tail _ hm => exact h3 i o d j hm hod hp
      | some bj =>
        rw [hp0] at h
        obtain ⟨hf, h⟩ := cnd_some h
        obtain ⟨r, hr, h⟩ := ob_some h
        injection h with h; subst h
        obtain ⟨h1, h2, h3⟩ := ih hr
        refine ⟨fun i o d hm hod => ?_, fun v j hm => ?_, fun i o d j hm hod hp => ?_⟩
        · cases hm with
          | head => rw [hd] at hod; injection hod with hod; subst hod; exact hlt
          | tail _ hm => exact h1 i o d hm hod
        · cases hm with
          | head => exact ⟨bi, bo, bd, .head _, hd, hp0, hf, rfl⟩
          | tail _ hm =>
            obtain ⟨i, o, d, g1, g2⟩ := h2 v j hm
            exact ⟨i, o, d, .tail _ g1, g2⟩
        · cases hm with
          | head => rw [hd] at hod; injection hod with hod; subst hod; rw [hp0] at hp; injection hp with hp; subst hp; exact .head _
          | tail _ hm => exact .tail _ (h3 i o d j hm hod hp)

theorem clearT_spec {ks : List (Nat × Nat)} (hk : ∀ v j, (v, j) ∈ ks → fits kp j = true) {T : Tr AV} {j : Nat} (hf : fits kp j = true) :
    getP (path kp.k j []) (clearT kp ks T) = .any ∨ ((∀ v, (v, j) ∉ ks) ∧ getP (path kp.k j []) (clearT kp ks T) = getP (path kp.k j []) T) := by
  induction ks with
  | nil => exact .inr ⟨fun v h => (by cases h), rfl⟩
  | cons e ks ih =>
    have ih := ih fun v j h => hk v j (.tail _ h)
    have e1 : clearT kp (e :: ks) T = Tr.put .nil (path kp.k e.2 []) (clearT kp ks T) := rfl
    rw [e1]
    by_cases he : e.2 = j
    · left
      subst he
      unfold getP
      rw [get_put_same]; rfl
    · have e2 : getP (path kp.k j []) (Tr.put .nil (path kp.k e.2 []) (clearT kp ks T)) = getP (path kp.k j []) (clearT kp ks T) := by
        unfold getP
        rw [get_put_ne _ _ _ _ (by simp [path_length]) (fun h => he (path_inj (fits_lt (hk e.1 e.2 (.head _))) (fits_lt hf) h))]
      rw [e2]
      rcases ih with h | ⟨h1, h2⟩
      · exact .inl h
      · refine .inr ⟨fun v hv => ?_, h2⟩
        cases hv with
        | head => exact he rfl
        | tail _ hv => exact h1 v hv
theorem clearT_in {ks : List (Nat × Nat)} (hk : ∀ v j, (v, j) ∈ ks → fits kp j = true) {T : Tr AV} {v j : Nat} (h : (v, j) ∈ ks) : getP (path kp.k j []) (clearT kp ks T) = .any := by
  rcases clearT_spec hk (T := T) (hk v j h) with h1 | ⟨h1, _⟩
  · exact h1
  · exact absurd h (h1 v)
theorem clearT_out {ks : List (Nat × Nat)} (hk : ∀ v j, (v, j) ∈ ks → fits kp j = true) {T : Tr AV} {j : Nat} (hf : fits kp j = true) (h : ∀ v, (v, j) ∉ ks) : getP (path kp.k j []) (clearT kp ks T) = getP (path kp.k j []) T := by
  induction ks with
  | nil => rfl
  | cons e ks ih =>
    have ih := ih (fun v j h => hk v j (.tail _ h)) fun v hv => h v (.tail _ hv)
    have e1 : clearT kp (e :: ks) T = Tr.put .nil (path kp.k e.2 []) (clearT kp ks T) := rfl
    have he : e.2 ≠ j := fun he => h e.1 (by rw [← he]; exact .head _)
    rw [e1, ← ih]
    unfold getP
    rw [get_put_ne _ _ _ _ (by simp [path_length]) (fun h => he (path_inj (fits_lt (hk e.1 e.2 (.head _))) (fits_lt hf) h))]
theorem fillE_spec {ks : List (Nat × Nat)} (hk : ∀ v j, (v, j) ∈ ks → fits kp j = true) {E : List AV} {T : Tr AV} {j : Nat} (hf : fits kp j = true) :
    (∃ v, (v, j) ∈ ks ∧ getP (path kp.k j []) (fillE kp ks E T) = opt (nth E v) .any fun x => x) ∨ ((∀ v, (v, j) ∉ ks) ∧ getP (path kp.k j []) (fillE kp ks E T) = getP (path kp.k j []) T) := by
  induction ks with
  | nil => exact .inr ⟨fun v h => (by cases h), rfl⟩
  | cons e ks ih =>
    have ih := ih fun v j h => hk v j (.tail _ h)
    have e1 : fillE kp (e :: ks) E T = Tr.put (.leaf (opt (nth E e.1) .any fun x => x)) (path kp.k e.2 []) (fillE kp ks E T) := rfl
    rw [e1]
    by_cases he : e.2 = j
    · left
      subst he
      refine ⟨e.1, .head _, ?_⟩
      unfold getP
      rw [get_put_same]; rfl
    · have e2 : getP (path kp.k j []) (Tr.put (.leaf (opt (nth E e.1) .any fun x => x)) (path kp.k e.2 []) (fillE kp ks E T)) = getP (path kp.k j []) (fillE kp ks E T) := by
        unfold getP
        rw [get_put_ne _ _ _ _ (by simp [path_length]) (fun h => he (path_inj (fits_lt (hk e.1 e.2 (.head _))) (fits_lt hf) h))]
      rw [e2]
      rcases ih with ⟨v, h1, h2⟩ | ⟨h1, h2⟩
      · exact .inl ⟨v, .tail _ h1, h2⟩
      · refine .inr ⟨fun v hv => ?_, h2⟩
        cases hv with
        | head => exact he rfl
        | tail _ hv => exact h1 v hv
end

theorem mem_dstsOf {ops : List Oper} {d : Tmp} : d ∈ dstsOf ops ↔ ∃ (i : Nat) (o : Oper), ops[i]? = some o ∧ o.dst = some d := by
  unfold dstsOf
  rw [List.mem_filterMap]
  constructor
  · rintro ⟨o, h1, h2⟩
    obtain ⟨i, hi, h⟩ := List.getElem_of_mem h1
    exact ⟨i, o, by rw [List.getElem?_eq_getElem hi, h], h2⟩
  · rintro ⟨i, o, h1, h2⟩
    exact ⟨o, List.mem_of_getElem? h1, h2⟩
theorem distinct_spec : ∀ {ops : List Oper}, distinct (dstsOf ops) = true → ∀ (i j : Nat) (oi oj : Oper) (d : Tmp), ops[i]? = some oi → ops[j]? = some oj → oi.dst = some d → oj.dst = some d → i = j := by
  intro ops
  induction ops with
  | nil => intro _ i j oi oj d h; simp at h
  | cons o ops ih =>
    intro h i j oi oj d h1 h2 h3 h4
    have hrec : distinct (dstsOf ops) = true := by
      unfold dstsOf at h ⊢
      rw [List.filterMap_cons] at h
      split at h
      · exact h
      · simp only [distinct, Bool.and_eq_true] at h; exact h.2
    have hne : ∀ (k : Nat) (ok : Oper), o.dst = some d → ops[k]? = some ok → ok.dst = some d → False := fun k ok g1 g2 g3 => by
      have hmem := mem_dstsOf.2 ⟨k, ok, g2, g3⟩
      unfold dstsOf at h hmem
      rw [List.filterMap_cons, g1] at h
      simp only [distinct, Bool.and_eq_true, not'_eq, Bool.not_eq_true'] at h
      have h5 := h.1
      rw [List.contains_eq_mem] at h5
      simp [hmem] at h5
    cases i with
    | zero =>
      cases j with
      | zero => rfl
      | succ j => simp at h1 h2; subst h1; exact (hne j oj h3 h2 h4).elim
    | succ i =>
      cases j with
      | zero => simp at h1 h2; subst h2; exact (hne i oi h4 h1 h3).elim
      | succ j => rw [ih hrec i j oi oj d (by simpa using h1) (by simpa using h2) h3 h4]

theorem Dsts.of {kp : Kp} {n : Nat} {ops : List Oper} (hd : distinct (dstsOf ops) = true) (hlt : ∀ d ∈ dstsOf ops, d < n) : Dsts (kpOut kp n (dstsOf ops)) n ops :=
  ⟨distinct_spec hd, fun i o d h1 h2 => by
    have hm := mem_dstsOf.2 ⟨i, o, h1, h2⟩
    exact ⟨kpOut_none hm (hlt d hm), hlt d hm⟩⟩
end Go.Drip

/-
Regions that draw their order: what the evaluator says of them is so.
-/
set_option linter.unusedVariables false
set_option linter.unusedSimpArgs false
namespace Go.Drip
section
variable {P : Program} {t : Tab} {kp : Kp} {kps : FuncId → Kp} {run : Run} {rec : Rec} {base : Nat} {T : Tr AV} {ops : List Oper} {ds : Nat → DS} {n : Nat} {w0 w w' : World} {c0 c : Cx} {H H' H0 : AH} {df : List Deferred} {D : Nat → Prop} {a : Act} {k : Nat}

theorem Stp.start (hh : HR kps w c H) (hw : w'.heap = w.heap) (ho : w'.os = w.os) (ht : w'.tape = w.tape) (hu : w'.output = w.output) (hn : H.next ≤ H'.next) (hm : H'.next ≤ maxH) (hp : H'.prot = H.prot) (hg : ∀ b, b < maxH → H'.get b = H.get b) : Stp kps w c H w' c H' := by
  have hbm : ∀ b, c.D b → b < maxH := fun b hb => Nat.lt_of_lt_of_le (hh.N b hb) hh.max
  have hS : ∀ k, c.S k → w'.heap[k]? = w.heap[k]? := fun k _ => by rw [hw]
  refine ⟨⟨ho, ht, hu, by rw [hw]; exact Nat.le_refl _⟩, Ext.refl c, ⟨fun b hb => Nat.lt_of_lt_of_le (hh.N b hb) hn, hm, by rw [hp]; exact Nat.le_trans hh.pr hn, fun b x hb hx => ?_, fun b x hb hx => ?_, fun b b' x x' hb hb' hx hx' he => ?_, fun k hk => ?_⟩,
    fun k _ _ => (by rw [hw]), fun b x hb hx => .inl ⟨b, x, hb, ?_, rfl⟩, hp, fun _ h => .inl h, fun _ h => .inl h, hn, fun b hb => hg b ?_⟩
  · rw [hg b (hbm b hb)] at hx; exact (hh.blk b x hb hx).mono hb (Ext.refl c) hS (by rw [hw])
  · rw [hg b (hbm b hb)] at hx; exact hh.own b x hb hx
  · rw [hg b (hbm b hb)] at hx
    rw [hg b' (hbm b' hb')] at hx'
    exact hh.inj b b' x x' hb hb' hx hx' he
  · rw [hw]; exact hh.cS k hk
  · rw [← hg b (hbm b hb)]; exact hx
  · have h1 := hh.pr
    have h2 := hh.max
    omega

theorem Trace.NB_small (h : Trace t kp kps run ops rec base T ds) (hok : edgesOk 0 ops = true) (hm : base + cntOf t ops ≤ maxH) {i : Nat} (hi : i ≤ ops.length) : (∀ e ∈ (ds i).NB, e.2.1 < maxH) ∧ Apart (ds i).NB := by
  have hNB := h.NB hok i hi
  refine ⟨fun e he => ?_, fun e he e' he' hid => ?_⟩
  · obtain ⟨j, _, h2, _, rfl⟩ := (hNB e).1 he
    have := (h.id_lt h2).2
    unfold idOf at this
    omega
  · obtain ⟨j, _, h2, _, rfl⟩ := (hNB e).1 he
    obtain ⟨j', _, h2', _, rfl⟩ := (hNB e').1 he'
    rw [h.id_inj h2 h2' hid]

theorem InvD.final (hT : Trace t kp kps run ops rec H0.next T ds) (hok : edgesOk 0 ops = true) (hm : H0.next + cntOf t ops ≤ maxH) (hp0 : H0.prot ≤ H0.next) (h : InvD kps t kp T ops ds n w0 c0 H0 df D a w c k) (hall : ∀ j, j < ops.length → D j) :
    Stp kps w0 c0 H0 w c (putNB (fun _ => true) (ds ops.length).NB (ds ops.length).C) := by
  have hgap : ∀ q, k ≤ q → q < ops.length → ¬ ChX t kp T ops ds q := fun q h1 h2 hq => by
    have := (h.chain q hq).1 (hall q h2)
    omega
  have hr : heapD t kp T ops ds ops.length D = heapD t kp T ops ds k D := hT.heap_range h.le (Nat.le_refl _) hgap
  have hst := h.stp
  rw [← hr] at hst
  have hf1 := putNB_fields (fun _ => true) (ds ops.length).NB (ds ops.length).C
  have hf2 := heapD_fields (t := t) (kp := kp) (T := T) (ops := ops) (ds := ds) ops.length D
  have hNB := hT.NB hok ops.length (Nat.le_refl _)
  obtain ⟨hsm, hap⟩ := hT.NB_small hok hm (Nat.le_refl ops.length)
  refine hst.congr (by rw [hf1.1, hf2.1]) (by rw [hf1.2, hf2.2]) (by omega) fun b hb => ?_
  by_cases hx : ∃ j, j < ops.length ∧ NwX t kp T ops ds j ∧ ¬ Merged t kp T ops ds ops.length j ∧ idOf ds j = b
  · obtain ⟨j, h1, h2, h3, rfl⟩ := hx
    rw [hT.heap_in hm (hall j h1) h2 h3]
    exact get_putNB_in hsm hap ((hNB _).2 ⟨j, h1, h2, h3, rfl⟩) rfl
  · rw [hT.heap_out hm hb fun j _ h2 h3 h4 => hx ⟨j, ?_, h2, h3, h4⟩, get_putNB_out hb hsm fun e he _ hid => ?_]
    · obtain ⟨j, h1, h2, h3, rfl⟩ := (hNB e).1 he
      exact hx ⟨j, h1, h2, h3, hid⟩
    · obtain ⟨o, ho, _⟩ := h2
      exact (List.getElem?_eq_some_iff.1 ho).1

theorem start_tr {ks : List (Nat × Nat)} {len : Nat} (hks : keptD kp n len (numbered 0 ops) = some ks) {tm : Array Value} (hT0 : TR w c kp T tm) : TR w c (kpOut kp n (dstsOf ops)) (clearT kp ks T) tm := by
  obtain ⟨k1, k2, k3⟩ := keptD_spec hks
  have hk : ∀ v j, (v, j) ∈ ks → fits kp j = true := fun v j h => by
    obtain ⟨_, _, _, _, _, _, h, _⟩ := k2 v j h; exact h
  have hlt : ∀ d ∈ dstsOf ops, d < n := fun d hd => by
    obtain ⟨i, o, h1, h2⟩ := mem_dstsOf.1 hd
    exact k1 i o d (numbered0.2 h1) h2
  intro i j hp hf
  have hf : fits kp j = true := hf
  show VR w c (getP (path kp.k j []) (clearT kp ks T)) _
  rcases clearT_spec hk (T := T) hf with h | ⟨h1, h2⟩
  · rw [h]; exact .any _
  · rw [h2]
    by_cases hd : i ∈ dstsOf ops
    · rw [kpOut_none hd (hlt i hd)] at hp; cases hp
    · by_cases hin : i = n
      · subst hin
        rcases kpOut_sent hlt hp with ⟨d, hm, hpd⟩ | hpn
        · obtain ⟨x, ox, hx, hdx⟩ := mem_dstsOf.1 hm
          exact absurd (k3 x ox d j (numbered0.2 hx) hdx hpd) (h1 _)
        · exact hT0 i j hpn hf
      · exact hT0 i j ((kpOut_same hd hin).1 hp) hf

theorem getD_out {tm : Array Value} {i : Nat} (h : tm.size ≤ i) : tm.getD i undef = undef := by
  simp only [Array.getD_eq_getD_getElem?]
  rw [Array.getElem?_eq_none h]; rfl
theorem InvD.final_tr {ks : List (Nat × Nat)} {T0 : Tr AV} (hks : keptD kp n ops.length (numbered 0 ops) = some ks) (hT : Trace t (kpOut kp n (dstsOf ops)) kps run ops rec base (clearT kp ks T0) ds)
    (h : InvD kps t (kpOut kp n (dstsOf ops)) (clearT kp ks T0) ops ds n w0 c0 H0 df D a w c k) (hall : ∀ j, j < ops.length → D j) {tm0 : Array Value} (hT0 : TR w0 c0 kp T0 tm0) (hs0 : tm0.size = n) (hh0 : HR kps w0 c0 H0) :
    TR w c kp (fillE kp ks (ds ops.length).E (clearT kp ks T0)) a.tmps := by
  obtain ⟨k1, k2, k3⟩ := keptD_spec hks
  have hk : ∀ v j, (v, j) ∈ ks → fits kp j = true := fun v j h => by
    obtain ⟨_, _, _, _, _, _, h, _⟩ := k2 v j h; exact h
  intro i j hp hf
  rcases fillE_spec hk (E := (ds ops.length).E) (T := clearT kp ks T0) hf with ⟨v, h1, h2⟩ | ⟨h1, h2⟩
  · rw [h2]
    obtain ⟨x, ox, d, g1, g2, g3, g4, g5⟩ := k2 v j h1
    have hdi : d = i := by
      have e1 := posIn_some g3
      have e2 := posIn_some hp
      rw [e1] at e2; injection e2
    subst hdi
    have hx := numbered0.1 g1
    have hxl := (List.getElem?_eq_some_iff.1 hx).1
    rw [g5, nth_eq, (hT.E ops.length (Nat.le_refl _)).2.2.1 x hxl]
    exact h.vals x ox d hx (hall x hxl) g2
  · rw [h2]
    have hnd : i ∉ dstsOf ops := fun hm => by
      obtain ⟨x, ox, hx, hd⟩ := mem_dstsOf.1 hm
      exact h1 _ (k3 x ox i j (numbered0.2 hx) hd hp)
    by_cases hin : i = n
    · rw [clearT_out hk hf h1]
      have h3 := hT0 i j hp hf
      rw [getD_out (by omega)] at h3
      rw [getD_out (by rw [h.size]; omega)]
      exact h3.step hh0 h.stp
    · exact h.tr i j ((kpOut_same hnd hin).2 hp) hf
end

section
variable {P : Program} {t : Tab} {kps : FuncId → Kp}
theorem done_set {listed : Array Bool} {i : Nat} (hi : i < listed.size) (j : Nat) : Done (listed.setIfInBounds i true) j ↔ Done listed j ∨ j = i := by
  unfold Done
  simp only [Array.getD_eq_getD_getElem?]
  by_cases h : j = i
  · subst h; simp [hi]
  · rw [Array.getElem?_setIfInBounds_ne (Ne.symm h)]
    exact ⟨.inl, fun h' => h'.resolve_right h⟩
theorem done_none {m j : Nat} : ¬ Done (Array.replicate m false) j := by
  unfold Done
  simp only [Array.getD_eq_getD_getElem?]
  by_cases h : j < m <;> simp [h]
theorem left_all (m : Nat) : left (Array.replicate m false) = m := by
  unfold left
  simp

theorem oldE_sound {w : World} {c : Cx} {n : Nat} {kp : Kp} {T : Tr AV} {a : Act} (hs : a.tmps.size = n) (hT : TR w c kp T a.tmps) : ∀ {ops : List Oper} {x : Nat} {o : Oper} {d : Tmp}, ops[x]? = some o → o.dst = some d → VR w c (opt (nth ((oldE kp ops).f T) x) .any fun x => x) (a.tmps.getD d undef) := by
  intro ops
  induction ops with
  | nil => intro x o d hx; simp at hx
  | cons p ops ih =>
    intro x o d hx hd
    cases x with
    | zero =>
      simp at hx; subst hx
      show VR w c (opt p.dst ⟨.x .any⟩ fun d => (getS kp d).f [] T) _
      rw [hd]; exact getS_sound (n := n) (.start hs hT) d
    | succ x => exact ih (x := x) (by simpa using hx) hd
theorem region_draw (ht : t.Ok P) (hmo : P.follows .mixedOrders = true) {F : Fence} (hF : Wd F) {run : Run} (hrun : RunOk kps P run) {rec : Rec} (hrec : RecOk kps P rec) {kp : Kp} {n id base : Nat} {ops : Array Oper} {w : World} {c : Cx} {H H' : AH} {T T' : Tr AV} {a : Act} {e : AE}
    (hh : HR kps w c H) (hs : a.tmps.size = n) (hT : TR w c kp T a.tmps) (hM : Marks base w a.defers) (hok : edgesOk 0 ops.toList = true) (hch : chainOk t (masks ops.toList []) (numbered 0 ops.toList) = true) (hdi : distinct (dstsOf ops.toList) = true)
    {ks : List (Nat × Nat)} (hks : keptD kp n ops.toList.length (numbered 0 ops.toList) = some ks)
    (h : runD kp (ranks t (numbered 0 ops.toList) 0).length ks (oldE kp ops.toList).f (goD t (kpOut kp n (dstsOf ops.toList)) kps run ops.toList ((numbered 0 ops.toList).map (opS t ops.toList (numbered 0 ops.toList) (masks ops.toList []) (ranks t (numbered 0 ops.toList) 0)))).f rec [] T H = .go e T' H')
    {Q : Exit → Act → World → Prop} (hQ : ∀ a' w' c', a'.tmps.size = n → TR w' c' kp T' a'.tmps → Marks base w' a'.defers → Stp kps w c H w' c' H' → Q (exitOf e) a' w') : (Code.region id ops true).wpIn F 0 P Q a w := by
  obtain ⟨hcnt, h⟩ := cnd_go h
  have hm : H.next + cntOf t ops.toList ≤ maxH := Nat.le_of_ble_eq_true hcnt
  obtain ⟨ds, hd0, hstep, hend⟩ := goD_trace _ _ _ _ _ _ h
  have hlen : ((numbered 0 ops.toList).map (opS t ops.toList (numbered 0 ops.toList) (masks ops.toList []) (ranks t (numbered 0 ops.toList) 0))).length = ops.toList.length := by
    have : ∀ (l : List Oper) (k : Nat), (numbered k l).length = l.length := fun l => by
      induction l with
      | nil => intro k; rfl
      | cons o l ih => intro k; simp [numbered, ih]
    rw [List.length_map, this]
  rw [hlen] at hend
  have hTr : Trace t (kpOut kp n (dstsOf ops.toList)) kps run ops.toList rec H.next (clearT kp ks T) ds := ⟨by rw [hd0], by rw [hd0], fun i o ho => hstep i _ (by
    rw [List.getElem?_map, numbered_get, ho]
    simp only [Option.map_some, Nat.zero_add])⟩
  have hC0 : (ds 0).C = ⟨H.next + cntOf t ops.toList, H.prot, H.tr⟩ := by rw [hd0]; rfl
  have h0 : (ds 0).C.next ≤ maxH := by rw [hC0]; exact hm
  obtain ⟨k1, k2, k3⟩ := keptD_spec hks
  have hlt : ∀ d ∈ dstsOf ops.toList, d < n := fun d hd => by
    obtain ⟨i, o, h1, h2⟩ := mem_dstsOf.1 hd
    exact k1 i o d (numbered0.2 h1) h2
  have hds := Dsts.of (kp := kp) hdi hlt
  have hI0 : ∀ D : Nat → Prop, (∀ j, ¬ D j) → InvD kps t (kpOut kp n (dstsOf ops.toList)) (clearT kp ks T) ops.toList ds n w c H a.defers D a { w with drawn := w.drawn + 1 } c 0 := fun D hD => by
    have hf := heapD_fields (t := t) (kp := kpOut kp n (dstsOf ops.toList)) (T := clearT kp ks T) (ops := ops.toList) (ds := ds) 0 D
    have hst : Stp kps w c H { w with drawn := w.drawn + 1 } c (heapD t (kpOut kp n (dstsOf ops.toList)) (clearT kp ks T) ops.toList ds 0 D) := by
      refine Stp.start hh rfl rfl rfl rfl (by rw [hf.1, hC0]; exact Nat.le_add_right _ _) (by rw [hf.1]; exact h0) (by rw [hf.2, hC0]) fun b hb => ?_
      rw [hTr.heap_out hm hb fun j hj => absurd hj (hD j), hC0]; rfl
    exact ⟨Nat.zero_le _, fun q _ => ⟨fun h => absurd h (hD q), fun h => absurd h (Nat.not_lt_zero _)⟩, hst, hs, rfl, start_tr hks (hT.step hh hst), fun j o d _ h => absurd h (hD j),
      fun j q hj => ⟨fun h => (by have := hh.N _ h; omega), fun h => absurd h.1 (hD j)⟩, by rw [hC0]; exact Nat.le_refl _, fun x ox d hx hd _ => by rw [hd0]; exact oldE_sound hs (hT.step hh hst) hx hd⟩
  have hkept := fun q => hTr.kept (n := n) ht hrun hrec hok hch hm h0 hh.pr hds (hI0 (fun j => j < 0) fun j => Nat.not_lt_zero j) q
  injection hend with e1 e2 e3
  subst e1; subst e2; subst e3
  refine wpIn_region_any hmo (wpAny_inv hok (fun listed a' w' => ∃ c' k, Closed ops.toList (Done listed) ∧ InvD kps t (kpOut kp n (dstsOf ops.toList)) (clearT kp ks T) ops.toList ds n w c H a.defers (Done listed) a' w' c' k) (fun listed a' w' hsz hI hall => ?_)
    (fun listed a' w' i o hsz hI ho hnd hr => ?_) ops.size (Array.replicate ops.size false) a _ (by simp) (left_all _) ⟨c, 0, fun i o _ hd => absurd hd done_none, hI0 _ fun j => done_none⟩)
  · obtain ⟨c', k, hcl, hI⟩ := hI
    have hall' : ∀ j, j < ops.toList.length → Done listed j := fun j hj => hall j (by simpa using hj)
    have hst := hI.final hTr hok hm hh.pr hall'
    exact hQ a' w' c' hI.size (hI.final_tr hks hTr hall' hT hs hh) (by rw [hI.defers]; exact hM.step hh hst) hst
  · obtain ⟨c', k, hcl, hI⟩ := hI
    have hoL : ops.toList[i]? = some o := by simpa using ho
    have hi : i < ops.size := (Array.getElem?_eq_some_iff.1 ho).1
    have hD := done_set (listed := listed) (i := i) (by omega)
    have hanc : ∀ j, anc ops.toList i j = true → Done listed j := fun j hj => closed_anc hok hcl hoL hr hj
    have hcl' : Closed ops.toList (Done (listed.setIfInBounds i true)) := fun x ox hx hdx e he hb => by
      refine (hD _).2 (.inl ?_)
      rcases (hD x).1 hdx with h | rfl
      · exact hcl x ox hx h e he hb
      · rw [hoL] at hx; injection hx with hx; subst hx
        exact hr e he hb
    obtain ⟨h1, h2⟩ := hI.step ht hrun hrec hTr hok hch hm h0 hh.pr hds hcl hoL hanc hnd hD fun q _ => hkept q
    have hw := hTr.wanted hoL (hI.env hTr hoL hanc hok hcl hnd) (opsA := ops) rfl
    unfold wpOpIn
    rw [ho]
    by_cases hg : Goes (kpOut kp n (dstsOf ops.toList)) (clearT kp ks T) ops.toList (recOf t ops.toList i o) (ds i)
    · simp only [hw.1 hg, if_true]
      exact OpTo.wp hF (h1 hg).1 (h1 hg).2 fun u w' ⟨c', k', _, hI'⟩ => ⟨c', k', hcl', hI'⟩
    · simp only [hw.2 hg, Bool.false_eq_true, if_false]
      exact ⟨fun f _ => hF.fn f, c', k, hcl', h2 hg⟩

theorem evDraw_ok (ht : t.Ok P) : DrawOk kps P (evDraw t kps) := by
  intro F hF run hrun fn n id ops rec hrec base w c H T a e T' H' hh hs hT hM hB h Q hQ
  have h : (evDraw t kps (kps fn) run n ops.toList).f rec [] T H = .go e T' H' := h
  unfold evDraw at h
  simp only at h
  split at h
  · rename_i ks hks
    obtain ⟨hok, hks⟩ := cnd_some hks
    obtain ⟨hch, hks⟩ := cnd_some hks
    obtain ⟨hdi, hks⟩ := cnd_some hks
    exact region_draw ht ht.mixed hF hrun hrec hh hs hT hM hok hch hdi hks h hQ
  · cases h
end
end Go.Drip

