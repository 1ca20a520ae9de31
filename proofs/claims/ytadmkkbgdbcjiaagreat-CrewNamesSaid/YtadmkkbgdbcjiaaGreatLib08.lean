import Derived.Test.YtadmkkbgdbcjiaaGreatLib07
/-
Calls of functions: callN is sound, given that regions that draw their order are. No condition.
-/
/-
Functions.
-/
set_option linter.unusedVariables false
set_option linter.unusedSimpArgs false
namespace Go.Drip
section
variable {P : Program} {w w' w0 : World} {c c' c0 : Cx} {n : Nat} {kp : Kp} {R : Rl} {T : Tr AV} {a : Act} {t : Tab} {kps : FuncId → Kp} {H H' H0 : AH}

/-! ### The marks are taken -/
theorem take_sound (hh : HR kps w c H) (hst : Stp kps w0 c0 H0 w c H) {r : Nat} (hr : w0.heap.size ≤ r) (hd : w.heap[r]? = some (.deferred (some []))) :
    (Instr.takeDeferred r).run P w = .ok [] (World.withObj w r (.deferred none)) ∧ HR kps (World.withObj w r (.deferred none)) c H ∧ Stp kps w0 c0 H0 (World.withObj w r (.deferred none)) c H ∧
      (∀ j, j ≠ r → (World.withObj w r (.deferred none)).heap[j]? = w.heap[j]?) ∧ (∀ j, c.S j → (World.withObj w r (.deferred none)).heap[j]? = w.heap[j]?) := by
  obtain ⟨f1, f2, f3, f4⟩ := withObj_facts hd (.deferred none)
  have hS : ∀ j, c.S j → (World.withObj w r (.deferred none)).heap[j]? = w.heap[j]? := fun j hj => f4 j fun e => by
    obtain ⟨arr, e', fz, h⟩ := hh.cS j hj
    rw [e, hd] at h; cases h
  have htr : ∀ b x, c.D b → H.get b = some x → c.blk b ≠ r := fun b x hb hx e => by
    have hb := hh.blk b x hb hx
    cases x with
    | cells e' sz rows => obtain ⟨_, _, arr, e'', g, _⟩ := hb; rw [e, hd] at g; cases g
    | map es => obtain ⟨ents, clock, g, _⟩ := hb; rw [e, hd] at g; cases g
    | loop fn T n ps as body st pend => obtain ⟨tmps, fn', d', g, _⟩ := hb; rw [e, hd] at g; cases g
  have hh' : HR kps (World.withObj w r (.deferred none)) c H := ⟨hh.N, hh.max, hh.pr, fun b x hb hx => (hh.blk b x hb hx).mono hb (Ext.refl c) hS (f4 _ (htr b x hb hx)), hh.own, hh.inj, fun j hj => by rw [hS j hj]; exact hh.cS j hj⟩
  refine ⟨?_, hh', ⟨hst.same.trans f1, hst.ext, hh', fun k hk hn => ?_, hst.own, hst.prot, hst.ownS, hst.newD, hst.next, hst.kept⟩, f4, hS⟩
  · simp only [Instr.takeDeferred, Sem.run_bind]
    have : (getObj r).run P w = .ok (.deferred (some [])) w := by simp [getObj, Sem.run, hd]
    rw [this]
    simp only [Result.andThen_ok, Sem.run_bind, setObj_run hd (fun _ _ _ h => by cases h) (.deferred none), Sem.run_pure]
  · rw [f4 k (by omega)]; exact hst.frame k hk hn

theorem leaves_sound {fn : Func} {tmps : Array Value} {R : Ending → World → Prop} {base : Nat} (hB : w0.heap.size ≤ base) : ∀ (ds : List Deferred) (w : World), HR kps w c H → Stp kps w0 c0 H0 w c H → TR w c kp T tmps → Marks base w ds →
    (∀ w2, HR kps w2 c H → Stp kps w0 c0 H0 w2 c H → TR w2 c kp T tmps → ∃ v, (results fn tmps).run P w2 = .ok v w2 ∧ R (.returned v) w2) → LeavesInM Fence.wide 0 P fn tmps R ds .returning w
  | [], w, hh, hst, hT, hM, hR => hR w hh hst hT
  | d :: ds, w, hh, hst, hT, hM, hR => by
    obtain ⟨r, hd, hr, hdef⟩ := hM.all d (.head _)
    obtain ⟨h1, h2, h3, h4, h5⟩ := take_sound (P := P) hh hst (Nat.le_trans hB hr) hdef
    refine ⟨fun h => (by cases h), .inl ⟨r, _, by rw [hd], h1, ?_⟩⟩
    refine leaves_sound hB ds _ h2 h3 (hT.mono (Ext.refl c) h5) ⟨fun d' hd' => ?_, (List.nodup_cons.1 hM.nodup).2⟩ hR
    obtain ⟨r', e', hr', hdef'⟩ := hM.all d' (.tail _ hd')
    refine ⟨r', e', hr', ?_⟩
    rw [h4 r' fun e => ?_]
    · exact hdef'
    · subst e
      rw [← hd] at e'
      subst e'
      exact (List.nodup_cons.1 hM.nodup).1 hd'

/-! ### Results -/
abbrev resRun (tmps : Array Value) : ResultVar → Sem Value
  | .tmp t => pure (tmps.getD t undef)
  | .cell a t => do loadVar t (← asAddr (tmps.getD a undef))
theorem res1_sound (ht : t.Ok P) (hh : HR kps w c H) (hs : a.tmps.size = n) (hT : TR w c kp T a.tmps) {r : ResultVar} {x : AV} (h : (res1 t kp r).f T H = some x) : ∃ v, (resRun a.tmps r).run P w = .ok v w ∧ VR w c x v := by
  have hA : AR w c n kp [] T a := .start hs hT
  cases r with
  | tmp i => injection h with h; subst h; exact ⟨_, rfl, getS_sound hA i⟩
  | cell i ty =>
    unfold res1 at h
    cases hz : aggSize t ty with
    | none => simp only [hz] at h; cases h
    | some s =>
      simp only [hz] at h
      obtain ⟨d, info, hd, hi, rfl⟩ := aggSize_some ht hz
      obtain ⟨b, q, k, hp, h2⟩ := onPtr_some (h : resCell _ _ _ = some x)
      obtain ⟨rows, hrows, h3⟩ := ob_some h2
      obtain ⟨row, hrow, h4⟩ := ob_some h3
      simp only [nth_eq] at hrow
      have hv := getS_sound hA i
      rw [hp] at hv
      obtain ⟨hptr, hb⟩ := hv.inv_ptr
      obtain ⟨arr, e, h5, h6, h7, h8, h9⟩ := hh.rows hb hrows
      obtain ⟨_, hm⟩ := h9 q row hrow
      obtain ⟨u, hu, hr, _⟩ := loadVar_sound hd hi hm h4
      refine ⟨u, ?_, hr⟩
      simp only [resRun, hptr, asAddr, Sem.run_bind, Sem.run_pure, Result.andThen_ok]
      exact hu
theorem resL_sound (ht : t.Ok P) (hh : HR kps w c H) (hs : a.tmps.size = n) (hT : TR w c kp T a.tmps) : ∀ (l : List ResultVar) (xs : List AV), (resL t kp l).f T H = some xs →
    ∃ vs : List Value, (l.mapM (resRun a.tmps)).run P w = .ok vs w ∧ xs.length = vs.length ∧ l.length = vs.length ∧ ∀ (i : Nat) (u : AV) (v : Value), xs[i]? = some u → vs[i]? = some v → VR w c u v
  | [], xs, h => by injection h with h; subst h; exact ⟨[], by simp, rfl, rfl, fun i u v hu => by simp at hu⟩
  | r :: l, xs, h => by
    obtain ⟨x, hx, h2⟩ := ob_some (h : ob ((res1 t kp r).f T H) (fun v => ob ((resL t kp l).f T H) fun vs => some (v :: vs)) = some xs)
    obtain ⟨ys, hys, h3⟩ := ob_some h2
    injection h3 with h3; subst h3
    obtain ⟨v, hv, hr⟩ := res1_sound ht hh hs hT hx
    obtain ⟨vs, hvs, l1, l2, hat⟩ := resL_sound ht hh hs hT l ys hys
    refine ⟨v :: vs, by simp only [List.mapM_cons, Sem.run_bind, hv, Result.andThen_ok, hvs, Sem.run_pure], by simp [l1], by simp [l2], fun i u v' hu hv' => ?_⟩
    cases i with
    | zero => simp at hu hv'; subst hu; subst hv'; exact hr
    | succ i => exact hat i u v' (by simpa using hu) (by simpa using hv')
theorem results_sound (ht : t.Ok P) (hh : HR kps w c H) (hs : a.tmps.size = n) (hT : TR w c kp T a.tmps) {fn : Func} {x : AV} (h : (resA t kp fn.results.toList).f T H = some x) : ∃ v, (results fn a.tmps).run P w = .ok v w ∧ VR w c x v := by
  have hrun : (results fn a.tmps).run P w = (do let vs ← fn.results.toList.mapM (resRun a.tmps); pure (if h : vs.toArray.size = 1 then vs.toArray[0] else .tuple vs.toArray) : Sem Value).run P w := by
    have e : results fn a.tmps = (do let vs ← fn.results.mapM (resRun a.tmps); pure (if h : vs.size = 1 then vs[0] else .tuple vs) : Sem Value) := rfl
    rw [e, Array.mapM_eq_mapM_toList]
    simp only [Sem.run_bind, map_eq_pure_bind]
    cases (fn.results.toList.mapM (resRun a.tmps)).run P w <;> rfl
  unfold resA at h
  split at h
  · rename_i r hl
    obtain ⟨v, hv, hr⟩ := res1_sound ht hh hs hT h
    refine ⟨v, ?_, hr⟩
    rw [hrun, hl]
    simp only [List.mapM_cons, List.mapM_nil, Sem.run_bind, hv, Result.andThen_ok, Sem.run_pure]
    rfl
  · rename_i hl
    obtain ⟨xs, hxs, h2⟩ := ob_some h
    injection h2 with h2; subst h2
    obtain ⟨vs, hvs, l1, l2, hat⟩ := resL_sound ht hh hs hT _ xs hxs
    refine ⟨.tuple vs.toArray, ?_, .tup xs vs.toArray (by simpa using l1) fun i u v hu hv => hat i u v hu (by simpa using hv)⟩
    rw [hrun]
    have hne : ¬ vs.toArray.size = 1 := fun e => by
      have hlen : fn.results.toList.length = 1 := by rw [l2]; simpa using e
      obtain ⟨r, hr⟩ := List.length_eq_one_iff.1 hlen
      exact hl r hr
    simp only [Sem.run_bind, hvs, Result.andThen_ok, Sem.run_pure, hne, dite_false]
end
end Go.Drip

/-
Calls: what goes away behind them; all of them.
-/
set_option linter.unusedVariables false
set_option linter.unusedSimpArgs false
namespace Go.Drip
section
variable {P : Program} {w w' w0 : World} {c c' c0 : Cx} {n : Nat} {kp : Kp} {R : Rl} {T : Tr AV} {a : Act} {t : Tab} {kps : FuncId → Kp} {H H' H0 : AH}

/-- Blocks from a number on are no more written. -/
def Cx.frz (c : Cx) (n : Nat) (H : AH) : Cx := { c with S := fun k => c.S k ∨ ∃ b e sz rows, n ≤ b ∧ c.D b ∧ H.get b = some (.cells e sz rows) ∧ c.blk b = k }
theorem Cx.frz_ext (c : Cx) (n : Nat) (H : AH) : Ext c (c.frz n H) := ⟨fun _ h => h, fun _ _ => rfl, fun _ _ => rfl, fun _ _ => rfl, fun _ _ => rfl, fun _ _ => rfl, fun _ h => .inl h⟩

theorem stp_frz (hst : Stp kps w0 c0 H0 w c H) (hn : n < maxH) (hp : H0.prot ≤ n) : Stp kps w0 c0 H0 w (c.frz n H) (H.prune n) := by
  have hh := hst.hr
  have hN := hh.N
  have hmax := hh.max
  have hext := c.frz_ext n H
  have hget : ∀ b x, c.D b → (H.prune n).get b = some x → H.get b = some x ∧ b < n := fun b x hb hx => AH.get_prune hn (by have := hN b hb; omega) hx
  have hblk : ∀ b x, c.D b → (H.prune n).get b = some x → BlkR kps w (c.frz n H) b x := fun b x hb hx => (hh.blk b x hb (hget b x hb hx).1).mono (c := c) hb hext (fun _ _ => rfl) rfl
  refine ⟨hst.same, hst.ext.trans hext, ⟨hh.N, hh.max, hh.pr, hblk, fun b x hb hx hS => ?_, fun b b' x x' hb hb' hx hx' he => ?_, fun k hk => ?_⟩, hst.frame, fun b x hb hx => ?_, hst.prot, ?_, hst.newD, hst.next, fun b hb => ?_⟩
  · obtain ⟨h1, h2⟩ := hget b x hb hx
    rcases hS with h | ⟨b', e, sz, rows, g1, g2, g3, g4⟩
    · exact hh.own b x hb h1 h
    · have := hh.inj b' b _ _ g2 hb g3 h1 g4
      omega
  · exact hh.inj b b' x x' hb hb' (hget b x hb hx).1 (hget b' x' hb' hx').1 he
  · rcases hk with h | ⟨b', e, sz, rows, g1, g2, g3, g4⟩
    · exact hh.cS k h
    · obtain ⟨_, _, arr, e', h3, _⟩ := hh.blk b' _ g2 g3
      exact ⟨arr, e', _, by rw [← g4]; exact h3⟩
  · exact hst.own b x hb (hget b x hb hx).1
  · rintro k (h | ⟨b', e, sz, rows, g1, g2, g3, g4⟩)
    · exact hst.ownS k h
    · rcases hst.own b' _ g2 g3 with ⟨b0, x0, q1, q2, q3⟩ | q1
      · exact .inr (.inl ⟨b0, x0, q1, q2, q3.trans g4⟩)
      · exact .inr (.inr (g4 ▸ q1))
  · rw [AH.get_prune_lt hn (by omega)]; exact hst.kept b hb
theorem stp_prune (hst : Stp kps w0 c0 H0 w c H) (hn : n < maxH) (hp : H0.prot ≤ n) : Stp kps w0 c0 H0 w c (H.prune n) := by
  have hh := hst.hr
  have hN := hh.N
  have hmax := hh.max
  have hget : ∀ b x, c.D b → (H.prune n).get b = some x → H.get b = some x ∧ b < n := fun b x hb hx => AH.get_prune hn (by have := hN b hb; omega) hx
  refine ⟨hst.same, hst.ext, ⟨hh.N, hh.max, hh.pr, fun b x hb hx => hh.blk b x hb (hget b x hb hx).1, fun b x hb hx => hh.own b x hb (hget b x hb hx).1, fun b b' x x' hb hb' hx hx' he => ?_, hh.cS⟩, hst.frame, fun b x hb hx => ?_, hst.prot, ?_, hst.newD, hst.next, fun b hb => ?_⟩
  · exact hh.inj b b' x x' hb hb' (hget b x hb hx).1 (hget b' x' hb' hx').1 he
  · exact hst.own b x hb (hget b x hb hx).1
  · exact hst.ownS
  · rw [AH.get_prune_lt hn (by omega)]; exact hst.kept b hb

theorem freezeB_some {fz : AV → Option AV} {r m : Nat} {x : Blk} {y : AV} (h : freezeB fz r m x = some y) : ∃ e sz rows rs l, x = .cells e sz rows ∧ rowsIn rows r m = some rs ∧ mapO (mapO fz) rs = some l ∧ y = ⟨.x (.imm sz m (rowF (mark0 l)))⟩ := by
  cases x with
  | cells e sz rows =>
    obtain ⟨rs, h1, h2⟩ := ob_some (h : ob (rowsIn rows r m) (fun rows => ob (mapO (mapO fz) rows) fun l => some (.imm sz m (rowF (mark0 l)))) = some y)
    obtain ⟨l, h3, h4⟩ := ob_some h2
    injection h4 with h4
    exact ⟨e, sz, rows, rs, l, rfl, h1, h3, h4.symm⟩
  | _ => cases h
theorem rowF_some {l : List (List AV)} {i : Nat} {row : List AV} (h : l[i]? = some row) : rowF l i = row := by unfold rowF; rw [nth_eq, h]
theorem rowF_mark {l : List (List AV)} {i : Nat} {row : List AV} (h : l[i]? = some row) : rowF (mark0 l) i = row := by
  cases l with
  | nil => simp at h
  | cons a l => exact rowF_some h

theorem freezeV_sound (hh : HR kps w c H) : ∀ (k : Nat) (x y : AV) (v : Value), VR w c x v → freezeV n k H x = some y → VR w (c.frz n H) y v
  | 0, x, y, v, hv, h => by cases h
  | k + 1, x, y, v, hv, h => by
    have same : some x = some y → VR w (c.frz n H) y v := fun h => by
      injection h with h; subst h
      exact hv.mono (c.frz_ext n H) fun _ _ => rfl
    have ih := freezeV_sound hh k
    rcases onX_cases x with ⟨kk, m, rfl⟩ | ⟨u, rfl⟩ | ⟨_, _, _, rfl⟩ | ⟨b, r, m, s, cap, rfl⟩ | ⟨cs, rfl⟩ | ⟨u, rfl⟩
    · exact same h
    · exact same h
    · exact same h
    · change cnd (Nat.ble n b) (ob (H.get b) (freezeB (freezeV n k H) r m)) (some _) = some y at h
      cases hc : Nat.ble n b with
      | false => rw [hc] at h; exact same h
      | true =>
        rw [hc] at h
        obtain ⟨blk, hg, hf⟩ := ob_some h
        obtain ⟨e, sz, rows, rs, l, rfl, h1, h2, rfl⟩ := freezeB_some hf
        cases hv with
        | sl _ _ _ _ _ kk hb hs hmk hc' hr hk =>
          obtain ⟨arr, e', g1, g2, g3, g4, g5⟩ := hh.rows hb (show cellsOf (H.get b) = some rows by rw [hg]; rfl)
          have hsz : sz = c.sz b := (hh.blk b _ hb hg).1
          subst hsz
          obtain ⟨e1, hl⟩ := rowsIn_some h1
          obtain ⟨m1, m2⟩ := mapO_some h2
          have hrow : ∀ i, i < m → ∃ row row', rs[i]? = some row ∧ l[i]? = some row' ∧ rows[r + i]? = some row ∧ mapO (freezeV n k H) row = some row' := fun i hi => by
            have i1 : i < rs.length := by omega
            have i2 : i < l.length := by omega
            refine ⟨rs[i], l[i], List.getElem?_eq_getElem i1, List.getElem?_eq_getElem i2, ?_, m2 i _ _ (List.getElem?_eq_getElem i1) (List.getElem?_eq_getElem i2)⟩
            have h0 : rs[i]? = (List.take m (List.drop r rows))[i]? := by rw [← e1]
            rw [List.getElem?_take_of_lt hi, List.getElem?_drop] at h0
            rw [← h0]; exact List.getElem?_eq_getElem i1
          have hcell : ∀ i j, i < m → j < c.sz b → ∃ u u' v, rowF (mark0 l) i = rowF (mark0 l) i ∧ (rowF (mark0 l) i)[j]? = some u' ∧ freezeV n k H u = some u' ∧ w.cell? ⟨c.blk b, c.off b + r * c.sz b + (i * c.sz b + j), none⟩ = some v ∧ VR w c u v ∧ v.oneCell' = true := fun i j hi hj => by
            obtain ⟨row, row', q1, q2, q3, q4⟩ := hrow i hi
            obtain ⟨p1, p2⟩ := g5 _ _ q3
            obtain ⟨n1, n2⟩ := mapO_some q4
            have j1 : j < row.length := by omega
            have j2 : j < row'.length := by omega
            obtain ⟨v, c1, c2, c3⟩ := p2 j _ (List.getElem?_eq_getElem j1)
            refine ⟨row[j], row'[j], v, rfl, by rw [rowF_mark q2]; exact List.getElem?_eq_getElem j2, n2 j _ _ (List.getElem?_eq_getElem j1) (List.getElem?_eq_getElem j2), ?_, c2, c3⟩
            rw [← c1]; congr 2; rw [Nat.add_mul]; omega
          refine .imm (c.sz b) m (rowF (mark0 l)) (c.blk b) (c.off b + r * c.sz b) kk (fun i j => (w.cell? ⟨c.blk b, c.off b + r * c.sz b + (i * c.sz b + j), none⟩).getD undef) hmk (fun _ _ => .inr ⟨b, e, c.sz b, rows, Nat.le_of_ble_eq_true hc, hb, hg, rfl⟩) (fun i hi => ?_) (fun i j hi hj => ?_) (fun i j hi hj => ?_) (fun i j u hi hu => ?_)
          · obtain ⟨row, row', q1, q2, q3, q4⟩ := hrow i hi
            rw [rowF_mark q2, ← (mapO_some q4).1]
            exact (g5 _ _ q3).1
          · obtain ⟨u, u', v, _, _, _, h5, _, _⟩ := hcell i j hi hj
            rw [h5]; rfl
          · obtain ⟨u, u', v, _, _, _, h5, _, h7⟩ := hcell i j hi hj
            rw [h5]; exact h7
          · have hj : j < c.sz b := by
              obtain ⟨row, row', q1, q2, q3, q4⟩ := hrow i hi
              have := (List.getElem?_eq_some_iff.1 hu).1
              rw [rowF_mark q2, ← (mapO_some q4).1, (g5 _ _ q3).1] at this
              exact this
            obtain ⟨u0, u', v, _, h3, h4, h5, h6, h7⟩ := hcell i j hi hj
            rw [hu] at h3; injection h3 with h3; subst h3
            rw [h5]; exact ih u0 u v h6 h4
        | sl0 => exact .immz _ _ _ _ fun e => by cases e
    · obtain ⟨l, hl, h2⟩ := ob_some (h : ob (mapO (freezeV n k H) cs) (fun l => some (.agg l)) = some y)
      injection h2 with h2; subst h2
      obtain ⟨vs, rfl, l1, o1, v1⟩ := hv.inv_agg
      obtain ⟨m1, m2⟩ := mapO_some hl
      refine .agg l vs (by rw [← m1]; exact l1) o1 fun i u v hu hv' => ?_
      have hi : i < cs.length := by have := (List.getElem?_eq_some_iff.1 hu).1; omega
      have hc := List.getElem?_eq_getElem hi
      exact ih _ u v (v1 i _ v hc hv') (m2 i _ _ hc hu)
    · cases u with
      | tup cs =>
        obtain ⟨l, hl, h2⟩ := ob_some (h : ob (mapO (freezeV n k H) cs) (fun l => some (.tup l)) = some y)
        injection h2 with h2; subst h2
        obtain ⟨vs, rfl, l1, v1⟩ := hv.inv_tup
        obtain ⟨m1, m2⟩ := mapO_some hl
        refine .tup l vs (by rw [← m1]; exact l1) fun i u v hu hv' => ?_
        have hi : i < cs.length := by have := (List.getElem?_eq_some_iff.1 hu).1; omega
        have hc := List.getElem?_eq_getElem hi
        exact ih _ u v (v1 i _ v hc hv') (m2 i _ _ hc hu)
      | _ => exact same h

theorem afterCall_sound {m : Mode} {x y : AV} {v : Value} (hst : Stp kps w0 c0 H0 w c H) (hp : H0.prot ≤ n) (hv : VR w c x v) (h : (afterCall m).f n x H = .ok y H') : ∃ c', VR w c' y v ∧ Stp kps w0 c0 H0 w c' H' := by
  have hlt : ∀ {r : RV}, cnd (Nat.ble maxH n) .no r = .ok y H' → n < maxH ∧ r = .ok y H' := fun {r} h => by
    cases hc : Nat.ble maxH n with
    | true => rw [hc] at h; cases h
    | false => rw [hc] at h; exact ⟨Nat.lt_of_not_le fun h' => (by rw [Nat.ble_eq_true_of_le h'] at hc; cases hc), h⟩
  cases m with
  | keep => injection h with h1 h2; subst h1; subst h2; exact ⟨c, hv, hst⟩
  | scalar =>
    obtain ⟨hn, h5⟩ := hlt h
    injection h5 with h1 h2; subst h1; subst h2
    exact ⟨c, hv, stp_prune hst hn hp⟩
  | pure =>
    obtain ⟨hn, h⟩ := hlt h
    obtain ⟨y', hy, h⟩ := rb_ok h
    injection h with h1 h2; subst h1; subst h2
    exact ⟨c.frz n H, freezeV_sound hst.hr 40 x _ v hv hy, stp_frz hst hn hp⟩

theorem fillT_sound : ∀ (vs : List AV) (i : Nat) (T T1 : Tr AV) (arr : Array Value) (vals : List Value), arr.size = n → TR w c kp T arr → vs.length = vals.length → (∀ (j : Nat) (u : AV) (v : Value), vs[j]? = some u → vals[j]? = some v → VR w c u v) →
    fillT kp n vs i T = some T1 → (vs = [] ∨ i + vs.length ≤ n) ∧ ∃ arr' : Array Value, arr'.size = n ∧ TR w c kp T1 arr' ∧ ∀ j, arr'[j]? = if i ≤ j ∧ j < i + vals.length then vals[j - i]? else arr[j]?
  | [], i, T, T1, arr, vals, hs, hT, hl, hv, h => by
    injection h with h; subst h
    have : vals = [] := List.eq_nil_of_length_eq_zero hl.symm
    subst this
    exact ⟨.inl rfl, arr, hs, hT, fun j => (by rw [if_neg]; rintro ⟨h1, h2⟩; simp at h2; omega)⟩
  | u :: vs, i, T, T1, arr, [], hs, hT, hl, hv, h => by cases hl
  | u :: vs, i, T, T1, arr, v :: vals, hs, hT, hl, hv, h => by
    obtain ⟨T2, h2, h3⟩ := ob_some (h : ob ((putK kp n i).f u T) (fun T => fillT kp n vs (Nat.succ i) T) = some T1)
    obtain ⟨hi, hT2⟩ := putK_sound hs hT (hv 0 u v rfl rfl) h2
    obtain ⟨g1, arr', g2, g3, g4⟩ := fillT_sound vs (i + 1) T2 T1 (arr.setIfInBounds i v) vals (by simp [hs]) hT2 (by simpa using hl) (fun j u v hu hv' => hv (j + 1) u v (by simpa using hu) (by simpa using hv')) h3
    refine ⟨.inr ?_, arr', g2, g3, fun j => ?_⟩
    · rcases g1 with rfl | g1
      · simp; omega
      · simp; omega
    · rw [g4 j]
      by_cases h1 : j = i
      · subst h1
        rw [if_neg (by omega), if_pos (by simp)]
        simp [hs, hi]
      · by_cases h4 : i + 1 ≤ j ∧ j < i + 1 + vals.length
        · rw [if_pos h4, if_pos (by simp; omega)]
          have : j - i = (j - (i + 1)) + 1 := by omega
          rw [this]; simp
        · rw [if_neg h4, if_neg (by simp; omega), Array.getElem?_setIfInBounds_ne (Ne.symm h1)]

theorem callBody_sound (ht : t.Ok P) {draw : Draw} (hdraw : DrawOk kps P draw) {m : Mode} {f : FuncId} {fn : Func} (hf : t.fn f = some fn) {rec : Rec} (hrec : RecOk kps P rec) {args : List AV} {vals : Array Value} (hh : HR kps w c H) (hargs : ArgsR w c args vals) {v : AV}
    (h : (callBody t kps draw m f fn).f rec args H = .ok v H') :
    (callFunc f vals).run P w = .ok (.enter f vals) w ∧ CallsIn Fence.wide 0 P f vals w fun e w' => ∃ u c', e = .returned u ∧ VR w' c' v u ∧ Stp kps w c H w' c' H' := by
  unfold callBody at h
  split at h
  · rename_i cd hbody
    obtain ⟨hfn, hcf⟩ := ht.fn f fn hf
    refine ⟨hcf cd hbody vals w, ?_⟩
    obtain ⟨T1, hT1, h2⟩ := rb_ok h
    obtain ⟨g1, arr', g2, g3, g4⟩ := fillT_sound args 0 .nil T1 (Array.replicate fn.ntmps undef) vals.toList (by simp) (fun i j _ _ => by unfold getP; rw [get_none]; exact .any _) (by rw [hargs.1]; simp) (fun j u v hu hv => hargs.2 j u v hu (by simpa using hv)) hT1
    have hsz : vals.size ≤ fn.ntmps := by
      rcases g1 with rfl | g1
      · have := hargs.1; simp at this; omega
      · have := hargs.1; omega
    have harr : arr' = vals ++ Array.replicate (fn.ntmps - vals.size) undef := by
      apply Array.ext_getElem?
      intro j
      rw [g4 j]
      simp only [Nat.zero_le, true_and, Nat.zero_add, Nat.sub_zero, Array.length_toList, Array.getElem?_toList]
      by_cases hj : j < vals.size
      · rw [if_pos hj, Array.getElem?_append_left hj]
      · rw [if_neg hj, Array.getElem?_append_right (by omega), Array.getElem?_replicate, Array.getElem?_replicate]
        by_cases hj2 : j < fn.ntmps
        · rw [if_pos hj2, if_pos (by omega)]
        · rw [if_neg hj2, if_neg (by omega)]
    rw [harr] at g2 g3
    refine callsIn_of_wp_marks (F := Fence.wide) hfn hbody trivial ?_ rfl
    cases hev : (ev t (kps f) kps draw (runN t kps draw 8) true f fn.ntmps cd).f rec T1 H with
    | no => rw [hev] at h2; cases h2
    | go e T2 H2 =>
      rw [hev] at h2
      refine ev_sound ht hdraw Wd.wide (runN_sound ht hdraw 8) (fun _ => rfl) f fn.ntmps cd rec hrec w.heap.size w c H T1 _ e T2 H2 hh g2 g3 (no_marks _ _) (Nat.le_refl _) hev _ fun a' w' c' hs' hT' hM' hst => ?_
      have fin : rb ((resA t (kps f) fn.results.toList).f T2 H2) (fun v => (afterCall m).f H.next v H2) = .ok v H' → LeavesInM Fence.wide 0 P fn a'.tmps (fun e w' => ∃ u c', e = .returned u ∧ VR w' c' v u ∧ Stp kps w c H w' c' H') a'.defers .returning w' := fun h => by
        obtain ⟨x, hx, h3⟩ := rb_ok h
        refine leaves_sound (Nat.le_refl _) a'.defers w' hst.hr hst hT' hM' fun w2 hh2 hst2 hT2 => ?_
        obtain ⟨u, hu, hv⟩ := results_sound (a := a') ht hh2 hs' hT2 hx
        obtain ⟨c2, hv2, hst3⟩ := afterCall_sound hst2 hh.pr hv h3
        exact ⟨u, hu, u, c2, rfl, hv2, hst3⟩
      cases e with
      | normal => exact fin h2
      | ret => exact fin h2
      | exit id => cases h2
  · cases h

/-- What the evaluator says of calls is so. -/
theorem callN_sound (ht : t.Ok P) {draw : Draw} (hdraw : DrawOk kps P draw) {mode : FuncId → Mode} {G : Rec} (hG : RecOk kps P G) (k : Nat) : RecOk kps P (callN t kps draw mode G k) := by
  induction k with
  | zero => exact fun f args vals w c H v H' hh ha h => by cases h
  | succ k ih =>
    intro f args vals w c H v H' hh ha h
    change orElse (G f args H) ((callFn t kps draw mode f).f (callN t kps draw mode G k) args H) = .ok v H' at h
    cases hg : G f args H with
    | ok v1 H1 => rw [hg] at h; injection h with h1 h2; subst h1; subst h2; exact hG f args vals w c H _ _ hh ha hg
    | no =>
      rw [hg] at h
      change (callFn t kps draw mode f).f (callN t kps draw mode G k) args H = .ok v H' at h
      unfold callFn at h
      split at h
      · rename_i fn hfn
        exact callBody_sound ht hdraw hfn ih hh ha h
      · cases h
/-- No memo. -/
def noG : Rec := fun _ _ _ => .no
theorem noG_sound : RecOk kps P noG := fun f args vals w c H v H' hh ha h => by cases h
end
end Go.Drip

/-
What operations look at, and what they change.
-/
set_option linter.unusedVariables false
set_option linter.unusedSimpArgs false
noncomputable section
namespace Go.Drip
section
variable {P : Program} {w w' : World} {c c' : Cx} {n : Nat} {kp : Kp} {R : Rl} {T : Tr AV} {a : Act} {t : Tab} {kps : FuncId → Kp} {H H' H2 : AH}

/-- The block that a value leads to. -/
def touchV (x : AV) : Option Nat := @AF.rec AV (fun _ => Option Nat) (fun _ _ => none) (fun _ => none) (fun b _ _ => some b) (fun b _ _ _ _ => some b) (fun _ => none) (fun w => AX.onMp none w some) x.f
/-- The operand through which an operation reads or writes. -/
def headOp : Op → Option Operand
  | .load _ x => some x
  | .lookup _ x _ _ => some x
  | .slice _ x _ _ _ => some x
  | .store _ x _ => some x
  | .mapUpdate _ x _ _ => some x
  | .insert _ x _ _ => some x
  | .call c => nth c.args.toList 0
  | _ => none
def touchOp (kp : Kp) (o : Op) : Box (Rl → Tr AV → Option Nat) :=
  match headOp o with
  | some x => ⟨fun R T => touchV ((opd kp x).f R T)⟩
  | none => ⟨fun _ _ => none⟩

/-- A part of a heap. -/
theorem HR.sub (hh : HR kps w c H) (hn : H'.next = H.next) (hp : H'.prot ≤ H.next) (hs : ∀ b x, c.D b → H'.get b = some x → H.get b = some x) : HR kps w c H' :=
  ⟨fun b hb => by rw [hn]; exact hh.N b hb, by rw [hn]; exact hh.max, by rw [hn]; exact hp, fun b x hb hx => hh.blk b x hb (hs b x hb hx), fun b x hb hx => hh.own b x hb (hs b x hb hx),
    fun b b' x x' hb hb' hx hx' he => hh.inj b b' x x' hb hb' (hs b x hb hx) (hs b' x' hb' hx') he, hh.cS⟩

theorem touch_ptr (b r k : Nat) : touchV ⟨.ptr b r k⟩ = some b := rfl
theorem touch_sl (b r m s : Nat) (q : Option Nat) : touchV ⟨.sl b r m s q⟩ = some b := rfl
theorem touch_mp (b : Nat) : touchV ⟨.x (.mp b)⟩ = some b := rfl

theorem ob_weak {α β : Type} {f : Option Blk → Option β} {g : β → Option α} {b : Nat} {r : α} (hf : f none = none) (hg : ∀ y, H.get b = some y → H2.get b = some y) (h : ob (f (H.get b)) g = some r) : ob (f (H2.get b)) g = some r := by
  cases hx : H.get b with
  | none => rw [hx, hf] at h; cases h
  | some y => rw [hg y hx]; rw [hx] at h; exact h
theorem loadF_local {part : List AV → Nat → Option AV} {x r : AV} (hg : ∀ b y, touchV x = some b → H.get b = some y → H2.get b = some y) (h : loadF part x H = some r) : loadF part x H2 = some r := by
  rcases onAddr_some h with ⟨b, p, k, rfl, h2⟩ | ⟨cs, rfl, h2⟩
  · exact ob_weak (f := cellsOf) rfl (fun y => hg b y rfl) h2
  · exact h2
theorem lookupF_local {eq : KeyF} {ok : Bool} {zv x k r : AV} (hg : ∀ b y, touchV x = some b → H.get b = some y → H2.get b = some y) (h : lookupF eq ok zv x k H = some r) : lookupF eq ok zv x k H2 = some r := by
  obtain ⟨e0, h0, h1⟩ := ob_some h
  obtain ⟨b, rfl, h2⟩ := onMp_some h1
  unfold lookupF
  rw [h0]
  exact ob_weak (f := mapOf) rfl (fun y => hg b y rfl) h2
theorem sliceF_local {s : Nat} {x r : AV} {lo hi mx : Option AV} (hg : ∀ b y, touchV x = some b → H.get b = some y → H2.get b = some y) (h : sliceF s x lo hi mx H = some r) : sliceF s x lo hi mx H2 = some r := by
  rcases onSl_some h with ⟨b, p, m, s', q, rfl, h2⟩ | ⟨s', m, f, rfl, h2⟩ | ⟨rfl, h2⟩ | ⟨rfl, h2⟩
  · show cnd (Nat.beq s s') (ob (cellsOf (H2.get b)) _) none = some r
    cases hs : Nat.beq s s' with
    | false => rw [hs] at h2; cases h2
    | true => rw [hs] at h2; exact ob_weak (f := cellsOf) rfl (fun y => hg b y rfl) h2
  · exact h2
  · exact h2
  · exact h2
theorem lenD_local {d : TypeDesc} {x r : AV} (hg : ∀ b y, touchV x = some b → H.get b = some y → H2.get b = some y) (h : (lenD d).f x H = some r) : (lenD d).f x H2 = some r := by
  cases d with
  | string => exact h
  | slice e => exact h
  | map k e =>
    obtain ⟨b, rfl, h2⟩ := onMp_some (h : x.onMp none _ = some r)
    exact ob_weak (f := mapOf) rfl (fun y => hg b y rfl) h2
  | _ => cases h

/-- An operation that reads looks at one block alone. -/
theorem read_local {o : Op} {r : AV} (hg : ∀ b y, (touchOp kp o).f R T = some b → H.get b = some y → H2.get b = some y) (h : (opRead t kp o).f R T H = some r) : (opRead t kp o).f R T H2 = some r := by
  cases o with
  | load ty x =>
    unfold opRead at h ⊢
    simp only at h ⊢
    cases hs : aggSize t ty with
    | none => rw [hs] at h; cases h
    | some s => rw [hs] at h; exact loadF_local (H2 := H2) hg h
  | lookup xt x i ok =>
    unfold opRead lookupS at h ⊢
    simp only at h ⊢
    split at h
    · rename_i kt e hxt
      obtain ⟨d, hd, h2⟩ := sR_some h
      obtain ⟨s, hs, h3⟩ := sR_some h2
      obtain ⟨zs, hz, h4⟩ := sR_some h3
      obtain ⟨zv, hzv, h5⟩ := sR_some h4
      simp only [hd, hs, hz]
      change (sR ((partA s).f zs 0) _).f R T H2 = some r
      rw [hzv]
      exact lookupF_local (H2 := H2) hg h5
    · cases h
  | slice xt x lo hi mx =>
    unfold opRead sliceS at h ⊢
    simp only at h ⊢
    split at h
    · exact h
    · rename_i mx _ _ e hxt
      cases hcnd : cnd mx.isSome hi.isNone false with
      | true => rw [hcnd] at h; cases h
      | false =>
        rw [hcnd] at h
        obtain ⟨s, hs, h2⟩ := sR_some h
        simp only [hcnd, hs]
        exact sliceF_local (H2 := H2) hg h2
    · cases h
  | call cl =>
    unfold opRead at h ⊢
    simp only at h ⊢
    split at h
    · rename_i ty x hc hty hx
      obtain ⟨d, hd, h2⟩ := sR_some h
      simp only [hd]
      refine lenD_local (H2 := H2) (fun b y hb => hg b y ?_) h2
      simp only [touchOp, headOp, hx, nth_eq]
      exact hb
    · cases h
  | _ => cases h

/-! ### What is written -/
theorem inPlace_local {b at_ sz : Nat} {e : TypeId} {rows new : List (List AV)} {x r : AV} (hm : H.next ≤ maxH) (hb : b < maxH) (h : inPlace b e sz rows at_ new x H = .ok r H') : H'.next = H.next ∧ ∀ b', b' < H.next → b' ≠ b → H'.get b' = H.get b' := by
  obtain ⟨_, h2⟩ := cnd_ok h
  obtain ⟨H1, hs, h3⟩ := rb_ok h2
  obtain ⟨_, rfl⟩ := AH.set_some hs
  injection h3 with _ h4; subst h4
  exact ⟨rfl, fun b' hb' hne => AH.get_upd_ne H _ hb (by omega) (Ne.symm hne)⟩
theorem freshA_local {sz : Nat} {e : TypeId} {rows : List (List AV)} {r : AV} (h : freshA e sz rows H = .ok r H') : H.next ≤ H'.next ∧ ∀ b', b' < H.next → H'.get b' = H.get b' := by
  obtain ⟨_, h1⟩ := cnd_ok h
  obtain ⟨hm, h2⟩ := AH.new_ok h1
  injection h2 with _ h3; subst h3
  exact ⟨Nat.le_succ _, fun b' hb' => AH.get_upd_ne H _ hm (by omega) (by omega)⟩

/-- What a writing operation leaves alone. -/
def Alone (H H' : AH) (x : AV) : Prop := H.next ≤ H'.next ∧ ∀ b, b < H.next → touchV x ≠ some b → H'.get b = H.get b
theorem Alone.refl (H : AH) (x : AV) : Alone H H x := ⟨Nat.le_refl _, fun _ _ _ => rfl⟩

theorem appendA_local {e : TypeId} {sz : Nat} {s r : AV} {new : List (List AV)} (hm : H.next ≤ maxH) (hb : ∀ b, touchV s = some b → b < maxH) (h : appendA e sz H s new = .ok r H') : Alone H H' s := by
  rcases onSl_ok h with ⟨b, q, m, s', cap, rfl, h2⟩ | ⟨s', m, f, rfl, h2⟩ | ⟨rfl, h2⟩ | ⟨rfl, h2⟩
  · have hbm := hb b rfl
    obtain ⟨_, h3⟩ := cnd_ok h2
    obtain ⟨rows, hrows, h4⟩ := rb_ok h3
    have inp : ∀ {at_ : Nat} {x : AV}, inPlace b e sz rows at_ new x H = .ok r H' → Alone H H' ⟨.sl b q m s' cap⟩ := fun h => by
      obtain ⟨h1, h2⟩ := inPlace_local hm hbm h
      exact ⟨by rw [h1]; exact Nat.le_refl _, fun b' hb' hne => h2 b' hb' fun e => hne (by rw [e]; rfl)⟩
    cases cap with
    | none =>
      change cnd _ _ _ = _ at h4
      cases hc1 : Nat.ble (Nat.add q (Nat.add m (len new))) (len rows) with
      | true => rw [hc1] at h4; exact inp h4
      | false =>
        rw [hc1] at h4
        obtain ⟨old, _, h5⟩ := rb_ok h4
        obtain ⟨H1, hset, h6⟩ := rb_ok h5
        obtain ⟨_, rfl⟩ := AH.set_some hset
        obtain ⟨f1, f2⟩ := freshA_local h6
        exact ⟨f1, fun b' hb' hne => (f2 b' hb').trans (AH.get_upd_ne H _ hbm (by omega) fun e => hne (by rw [← e]; rfl))⟩
    | some m0 =>
      change cnd _ _ _ = _ at h4
      cases hc1 : Nat.ble (Nat.add m (len new)) m0 with
      | true => rw [hc1] at h4; exact inp h4
      | false =>
        rw [hc1] at h4
        obtain ⟨old, _, h5⟩ := rb_ok h4
        obtain ⟨f1, f2⟩ := freshA_local h5
        exact ⟨f1, fun b' hb' _ => f2 b' hb'⟩
  · cases new with
    | cons p l => cases h2
    | nil => injection h2 with _ h3; subst h3; exact Alone.refl _ _
  · cases new with
    | nil => injection h2 with _ h3; subst h3; exact Alone.refl _ _
    | cons p l => obtain ⟨f1, f2⟩ := freshA_local h2; exact ⟨f1, fun b' hb' _ => f2 b' hb'⟩
  · cases new with
    | nil => injection h2 with _ h3; subst h3; exact Alone.refl _ _
    | cons p l => obtain ⟨f1, f2⟩ := freshA_local h2; exact ⟨f1, fun b' hb' _ => f2 b' hb'⟩

theorem set_alone {b : Nat} {x : Tr Blk} {v : AV} (hm : H.next ≤ maxH) (hb : b < maxH) (ht : touchV v = some b) (h : H.set b x = some H') : Alone H H' v := by
  obtain ⟨_, rfl⟩ := AH.set_some h
  exact ⟨Nat.le_refl _, fun b' hb' hne => AH.get_upd_ne H _ hb (by omega) fun e => hne (by rw [← e]; exact ht)⟩
theorem storeF_local {s : Nat} {x y r : AV} (hm : H.next ≤ maxH) (hb : ∀ b, touchV x = some b → b < maxH) (h : storeF s x y H = .ok r H') : Alone H H' x := by
  obtain ⟨b, p, k, rfl, h2⟩ := onPtr_ok h
  obtain ⟨e, sz, rows, hg, h3⟩ := cells3_ok h2
  obtain ⟨cs, hcs, h4⟩ := rb_ok h3
  cases cs with
  | nil => cases h4
  | cons u l =>
    obtain ⟨rows', _, h6⟩ := rb_ok (h4 : rb (setRow rows p k (u :: l)) _ = _)
    obtain ⟨H1, hset, h7⟩ := rb_ok h6
    injection h7 with _ h8; subst h8
    exact set_alone hm (hb b rfl) rfl hset
theorem mapPutF_local {eq : KeyF} {m k x r : AV} (hm : H.next ≤ maxH) (hb : ∀ b, touchV m = some b → b < maxH) (h : mapPutF eq m k x H = .ok r H') : Alone H H' m := by
  obtain ⟨_, _, h3⟩ := rb_ok h
  obtain ⟨b, rfl, h4⟩ := onMp_ok h3
  obtain ⟨es, _, h5⟩ := rb_ok h4
  obtain ⟨es', _, h6⟩ := rb_ok h5
  obtain ⟨H1, hset, h7⟩ := rb_ok h6
  injection h7 with _ h8; subst h8
  exact set_alone hm (hb b rfl) rfl hset
theorem copyF_local {sz : Nat} {x y r : AV} (hm : H.next ≤ maxH) (hb : ∀ b, touchV x = some b → b < maxH) (h : copyF sz x y H = .ok r H') : Alone H H' x := by
  obtain ⟨rows, _, h2⟩ := rb_ok h
  rcases onSl_ok h2 with ⟨b, q, m, s', cap, rfl, h3⟩ | ⟨s', m, f, rfl, h3⟩ | ⟨rfl, h3⟩ | ⟨rfl, h3⟩
  · obtain ⟨_, h4⟩ := cnd_ok h3
    obtain ⟨e, sz3, rows3, _, h5⟩ := cells3_ok h4
    obtain ⟨h1, h2⟩ := inPlace_local hm (hb b rfl) h5
    exact ⟨by rw [h1]; exact Nat.le_refl _, fun b' hb' hne => h2 b' hb' fun e => hne (by rw [e]; rfl)⟩
  · cases h3
  · injection h3 with _ h4; subst h4; exact Alone.refl _ _
  · injection h3 with _ h4; subst h4; exact Alone.refl _ _
theorem clearF_local {zs : List AV} {x r : AV} (hm : H.next ≤ maxH) (hb : ∀ b, touchV x = some b → b < maxH) (h : clearF zs x H = .ok r H') : Alone H H' x := by
  rcases onSl_ok h with ⟨b, q, m, s', cap, rfl, h3⟩ | ⟨s', m, f, rfl, h3⟩ | ⟨rfl, h3⟩ | ⟨rfl, h3⟩
  · obtain ⟨_, h4⟩ := cnd_ok h3
    obtain ⟨e, sz3, rows3, _, h5⟩ := cells3_ok h4
    obtain ⟨h1, h2⟩ := inPlace_local hm (hb b rfl) h5
    exact ⟨by rw [h1]; exact Nat.le_refl _, fun b' hb' hne => h2 b' hb' fun e => hne (by rw [e]; rfl)⟩
  · obtain ⟨_, h4⟩ := cnd_ok h3
    injection h4 with _ h4; subst h4; exact Alone.refl _ _
  · injection h3 with _ h4; subst h4; exact Alone.refl _ _
  · injection h3 with _ h4; subst h4; exact Alone.refl _ _

/-- An operation that writes changes one block alone. -/
theorem write_local {o : Op} {r : AV} (hm : H.next ≤ maxH) (hb : ∀ b, (touchOp kp o).f R T = some b → b < maxH) (h : (opWrite t kp o).f R T H = .ok r H') : H.next ≤ H'.next ∧ ∀ b, b < H.next → (touchOp kp o).f R T ≠ some b → H'.get b = H.get b := by
  cases o with
  | store ty x y => obtain ⟨s, _, h2⟩ := sW_ok h; exact storeF_local hm hb h2
  | mapUpdate ty m k x =>
    change (mapPutS t kp ty m k x).f R T H = _ at h
    unfold mapPutS at h
    split at h
    · obtain ⟨d, _, h2⟩ := sW_ok h; exact mapPutF_local hm hb h2
    · cases h
  | insert ty m k x =>
    change (mapPutS t kp ty m k x).f R T H = _ at h
    unfold mapPutS at h
    split at h
    · obtain ⟨d, _, h2⟩ := sW_ok h; exact mapPutF_local hm hb h2
    · cases h
  | call cl =>
    cases hc : cl.callee with
    | value f => simp only [opWrite, hc] at h; cases h
    | invoke x m => simp only [opWrite, hc] at h; cases h
    | builtin bi =>
      simp only [opWrite, hc] at h
      unfold builtinW at h
      have ht : ∀ {x : Operand} {l : List Operand}, cl.args.toList = x :: l → (touchOp kp (.call cl)).f R T = touchV ((opd kp x).f R T) := fun {x l} hx => by simp only [touchOp, headOp, hx, nth_eq]; rfl
      split at h
      · rename_i ty xt s x hty hx
        rw [ht hx] at hb ⊢
        unfold appendS at h
        split at h
        · obtain ⟨sz, _, h2⟩ := sW_ok h
          obtain ⟨zs, _, h3⟩ := sW_ok h2
          obtain ⟨_, h4⟩ := cndW_ok h3
          obtain ⟨new, _, h5⟩ := rb_ok h4
          exact appendA_local hm hb h5
        · obtain ⟨sz, _, h2⟩ := sW_ok h
          obtain ⟨zs, _, h3⟩ := sW_ok h2
          obtain ⟨_, h4⟩ := cndW_ok h3
          obtain ⟨_, h5⟩ := cndW_ok h4
          obtain ⟨m, _, h6⟩ := rb_ok (h5 : appendMk _ _ _ _ _ _ = _)
          obtain ⟨_, h7⟩ := cnd_ok h6
          exact appendA_local hm hb h7
        · cases h
      · rename_i ty tys d s hty hx
        rw [ht hx] at hb ⊢
        split at h
        · obtain ⟨sz, _, h2⟩ := sW_ok h; exact copyF_local hm hb h2
        · cases h
      · rename_i ty x hty hx
        rw [ht hx] at hb ⊢
        split at h
        · obtain ⟨zs, _, h2⟩ := sW_ok h; exact clearF_local hm hb h2
        · cases h
      · cases h
  | _ => cases h
end
end Go.Drip
end

