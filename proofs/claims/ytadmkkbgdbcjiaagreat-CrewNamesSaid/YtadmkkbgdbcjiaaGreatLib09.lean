import Derived.Test.YtadmkkbgdbcjiaaGreatLib08
/-
Regions that draw their order: the evaluator, its canonical run, an invariant. No condition.
-/
/-
Regions that draw their order: the evaluator's part. Values of earlier operations stand in a list, the newest first; new blocks that no call and no write has seen stand aside.
-/
set_option linter.unusedVariables false
noncomputable section
namespace Go.Drip

/-! ### What is known from the text -/
/-- What must be done before, as bits. -/
def maskE (ms : List Nat) : List Edge → Nat
  | [] => 0
  | e :: es => cnd (Region.binds .any e) (Nat.lor (Nat.lor (2 ^ e.on) (ms.getD e.on 0)) (maskE ms es)) (maskE ms es)
def masks : List Oper → List Nat → List Nat
  | [], ms => ms
  | o :: l, ms => masks l (ms ++ [maskE ms o.after.toList])
def bit (m j : Nat) : Bool := Nat.beq (Nat.mod (Nat.shiftRight m j) 2) 1
/-- Edges lead to what stands before. -/
def edgesOk : Nat → List Oper → Bool
  | _, [] => true
  | i, o :: l => o.after.toList.all (fun e => not' (Region.binds .any e) || decide (e.on < i)) && edgesOk (i + 1) l

def isChain (t : Tab) (o : Oper) : Bool := match clsOf t o.op with | .write => true | .call => true | _ => false
def isCallC (t : Tab) (o : Oper) : Bool := match clsOf t o.op with | .call => true | _ => false
def isRead (t : Tab) (o : Oper) : Bool := match clsOf t o.op with | .read => true | _ => false
def isNew (t : Tab) (o : Oper) : Bool := match clsOf t o.op with | .new => true | _ => false

/-- Operations with their numbers. -/
def numbered : Nat → List Oper → List (Nat × Oper)
  | _, [] => []
  | i, o :: l => (i, o) :: numbered (i + 1) l
/-- Calls and writes are ordered. -/
def chainOk (t : Tab) (ms : List Nat) (l : List (Nat × Oper)) : Bool :=
  l.all fun a => l.all fun b => not' (isChain t a.2 && isChain t b.2 && decide (a.1 < b.1)) || bit (ms.getD b.1 0) a.1
def dstsOf (l : List Oper) : List Tmp := l.filterMap (·.dst)
def distinct : List Nat → Bool
  | [] => true
  | a :: l => not' (l.contains a) && distinct l
def mentions (o : Oper) (g : Option Tmp) (t : Tmp) : Bool := o.op.operands.any (fun x => match x with | .tmp u => Nat.beq u t | _ => false) || (match g with | some u => Nat.beq u t | none => false)

/-- What is known of an operation: its number; what must be done before; the values that it asks for: temporary and place in the list; its number among the new blocks; those
that are not before it; the earlier calls (true) and writes that are not before it, and the earlier reads, by place; whether it leaves what is old alone. -/
structure OpS where
  o : Oper
  i : Nat
  m : Nat
  us : List (Tmp × Nat)
  q : Nat
  news : List Nat
  ue : List (Nat × Bool)
  ur : List Nat
  quiet : Bool

section
variable (t : Tab)
def guardTmp (ops : List Oper) (o : Oper) : Option Tmp := match o.guard with | some (j, _) => (nth ops j).bind (·.dst) | none => none
/-- Numbers of new blocks. -/
def ranks : List (Nat × Oper) → Nat → List (Nat × Nat)
  | [], _ => []
  | a :: l, q => if isNew t a.2 then (a.1, q) :: ranks l (q + 1) else ranks l q
def opS (ops : List Oper) (l : List (Nat × Oper)) (ms : List Nat) (rk : List (Nat × Nat)) (a : Nat × Oper) : OpS :=
  let m := ms.getD a.1 0
  let g := guardTmp ops a.2
  { o := a.2, i := a.1, m := m
    us := (l.filterMap fun b => if b.1 < a.1 && bit m b.1 then (match b.2.dst with | some d => if mentions a.2 g d then some (d, a.1 - 1 - b.1) else none | none => none) else none) ++
      l.filterMap fun b => if decide (b.1 = a.1) || bit (ms.getD b.1 0) a.1 then (match b.2.dst with | some d => if mentions a.2 g d then some (d, a.1 + b.1) else none | none => none) else none
    q := (rk.find? fun r => r.1 == a.1).elim 0 (·.2)
    news := rk.filterMap fun r => if bit m r.1 then none else some r.2
    ue := l.filterMap fun b => if b.1 < a.1 && !bit m b.1 && isChain t b.2 then some (a.1 - 1 - b.1, isCallC t b.2) else none
    ur := l.filterMap fun b => if b.1 < a.1 && !bit m b.1 && isRead t b.2 then some (a.1 - 1 - b.1) else none
    quiet := l.any fun b => isRead t b.2 && !bit m b.1 && !bit (ms.getD b.1 0) a.1 }

/-! ### What a run brings -/
structure DS where
  E : List AV
  L : List (Option Nat)
  C : AH
  NB : List (Nat × Nat × Tr Blk)

def sel {α : Type} (f : α → Bool) (l : List α) : List α := @List.rec α (fun _ => List α) [] (fun a _ r => cnd (f a) (a :: r) r) l
def allB {α : Type} (f : α → Bool) (l : List α) : Bool := @List.rec α (fun _ => Bool) true (fun a _ r => cnd (f a) r false) l
def clearIds (base : Nat) (l : List Nat) (C : AH) : AH := @List.rec Nat (fun _ => AH) C (fun q _ r => r.upd (Nat.add base q) .nil) l
def putNB (f : Nat → Bool) (l : List (Nat × Nat × Tr Blk)) (C : AH) : AH := @List.rec (Nat × Nat × Tr Blk) (fun _ => AH) C (fun e _ r => cnd (f e.1) (r.upd e.2.1 e.2.2) r) l
/-- What an operation sees. -/
def view (s : OpS) (base : Nat) (d : DS) : AH := putNB (bit s.m) d.NB (clearIds base s.news d.C)
def envR (us : List (Tmp × Nat)) (E : List AV) : Rl := @List.rec (Tmp × Nat) (fun _ => Rl) [] (fun u _ r => (u.1, opt (nth E u.2) .any fun x => x) :: r) us

def touchAt (L : List (Option Nat)) (k : Nat) : Option Nat := opt (nth L k) none fun x => x
def apartW (a b : Option Nat) : Bool := opt a true fun x => opt b true fun y => not' (Nat.beq x y)
def apartC (nx b : Option Nat) : Bool := opt b true fun y => opt nx false fun x => Nat.ble (Nat.succ y) x

abbrev DK := DS → Res
abbrev DStep := Rec → Nat → Tr AV → DS → DK → Res
def pushD (d : DS) (v : AV) (l : Option Nat) : DS := ⟨v :: d.E, l :: d.L, d.C, d.NB⟩
def pureD (s : OpS) (f : P1) : DStep := fun _ _ T d k => sb (f (envR s.us d.E) T) fun v => k (pushD d v none)
def readD (s : OpS) (f : PR) (tc : Rl → Tr AV → Option Nat) : DStep := fun _ base T d k =>
  sb (f (envR s.us d.E) T (view s base d)) fun v =>
    cnd (apartC (some d.C.next) (tc (envR s.us d.E) T))
      (cnd (allB (fun u => cnd u.2 (apartC (touchAt d.L u.1) (tc (envR s.us d.E) T)) (apartW (touchAt d.L u.1) (tc (envR s.us d.E) T))) s.ue) (k (pushD d v (tc (envR s.us d.E) T))) .no) .no
def newD (s : OpS) (f : PN) : DStep := fun _ base T d k =>
  sb (f (envR s.us d.E) T) fun x => k ⟨x.2 (Nat.add base s.q) :: d.E, none :: d.L, d.C, (s.i, Nat.add base s.q, x.1) :: d.NB⟩
def grows (C C' : AH) (r : Res) : Res := cnd (Nat.ble C.next C'.next) (cnd (Nat.ble C'.next maxH) r .no) .no
def writeD (s : OpS) (f : PW) (tc : Rl → Tr AV → Option Nat) : DStep := fun _ base T d k =>
  cnd (apartC (some maxH) (tc (envR s.us d.E) T))
    (cnd (allB (fun u => apartW (tc (envR s.us d.E) T) (touchAt d.L u)) s.ur)
      (vb (f (envR s.us d.E) T (view s base d)) fun v C => grows d.C C (k ⟨v :: d.E, tc (envR s.us d.E) T :: d.L, C, sel (fun e => not' (bit s.m e.1)) d.NB⟩)) .no) .no
def quietH (q : Bool) (C : AH) : AH := cnd q ⟨C.next, C.next, C.tr⟩ C
def callD (s : OpS) (f : Rec → PW) : DStep := fun rec base T d k =>
  cnd (allB (fun u => apartC (some d.C.next) (touchAt d.L u)) s.ur)
    (vb (f rec (envR s.us d.E) T (quietH s.quiet (view s base d))) fun v C => grows d.C C (k ⟨v :: d.E, some d.C.next :: d.L, ⟨C.next, d.C.prot, C.tr⟩, sel (fun e => not' (bit s.m e.1)) d.NB⟩)) .no

variable (kp : Kp) (kps : FuncId → Kp)
def oneD (run : Run) (s : OpS) : Box DStep :=
  match clsOf t s.o.op with
  | .pure => ⟨pureD s (opPure t kp s.o.op).f⟩
  | .read => ⟨readD s (opRead t kp s.o.op).f (touchOp kp s.o.op).f⟩
  | .new => ⟨newD s (opNew t kp s.o.op).f⟩
  | .write => ⟨writeD s (opWrite t kp s.o.op).f (touchOp kp s.o.op).f⟩
  | .call => ⟨callD s (opCall kp kps run s.o.op).f⟩
def skipL (o : Oper) : Option Nat := match clsOf t o.op with | .call => some maxH | _ => none
def skipD (l : Option Nat) : DStep := fun _ _ _ d k => k (pushD d undefA l)
def guardD (s : OpS) (get : Rl → Tr AV → AV) (want : Bool) (a b : DStep) : DStep := fun rec base T d k => sb (wanted want (get (envR s.us d.E) T)) fun w => cnd w (a rec base T d k) (b rec base T d k)
def opD (run : Run) (ops : List Oper) (s : OpS) : Box DStep :=
  match s.o.guard with
  | none => oneD t kp kps run s
  | some (j, want) =>
    match guardOf ops j want with
    | some g => ⟨guardD s (getS kp g.1).f g.2 (oneD t kp kps run s).f (skipD (skipL t s.o))⟩
    | none => ⟨skipD (skipL t s.o)⟩
/-- Operations one behind another. -/
def goD (run : Run) (ops : List Oper) : List OpS → Box DStep
  | [] => ⟨fun _ _ _ d k => k d⟩
  | s :: l => ⟨fun rec base T d k => (opD t kp kps run ops s).f rec base T d fun d => (goD run ops l).f rec base T d k⟩

/-- The kept destinations' places: place of the value, place in the tree. -/
def keptD (n : Nat) (len : Nat) : List (Nat × Oper) → Option (List (Nat × Nat))
  | [] => some []
  | a :: l => match a.2.dst with
    | none => keptD n len l
    | some d => cnd (Nat.ble (Nat.succ d) n) (match posIn kp.l d with
      | none => keptD n len l
      | some j => cnd (fits kp j) (ob (keptD n len l) fun r => some ((len - 1 - a.1, j) :: r)) none) none
def clearT (ks : List (Nat × Nat)) (T : Tr AV) : Tr AV := @List.rec (Nat × Nat) (fun _ => Tr AV) T (fun e _ r => Tr.put .nil (path kp.k e.2 []) r) ks
def fillE (ks : List (Nat × Nat)) (E : List AV) (T : Tr AV) : Tr AV := @List.rec (Nat × Nat) (fun _ => Tr AV) T (fun e _ r => Tr.put (.leaf (opt (nth E e.1) .any fun x => x)) (path kp.k e.2 []) r) ks
def kpOut (n : Nat) (ds : List Tmp) : Kp := ⟨kp.l.map fun i => if ds.contains i then n else i, kp.k⟩
def endD (ks : List (Nat × Nat)) (T : Tr AV) : DK := fun d => .go .normal (fillE kp ks d.E T) (putNB (fun _ => true) d.NB d.C)
/-- The values that the destinations hold before. -/
def oldE (kp : Kp) : List Oper → Box (Tr AV → List AV)
  | [] => ⟨fun _ => []⟩
  | o :: l => ⟨fun T => opt o.dst .any (fun d => (getS kp d).f [] T) :: (oldE kp l).f T⟩
/-- A region that draws its order. -/
def runD (kp : Kp) (cnt : Nat) (ks : List (Nat × Nat)) (old : Tr AV → List AV) (go : DStep) : Rec → Nr := fun rec R T H =>
  cnd (Nat.ble (Nat.add H.next cnt) maxH) (go rec H.next (clearT kp ks T) ⟨old T, [], ⟨Nat.add H.next cnt, H.prot, H.tr⟩, []⟩ (endD kp ks (clearT kp ks T))) .no
end
def evDraw (t : Tab) (kps : FuncId → Kp) : Draw := fun kp run n ops =>
  let ms := masks ops []
  let l := numbered 0 ops
  let rk := ranks t l 0
  match cnd (edgesOk 0 ops) (cnd (chainOk t ms l) (cnd (distinct (dstsOf ops)) (keptD kp n ops.length l) none) none) none with
  | some ks => ⟨runD kp rk.length ks (oldE kp ops).f (goD t (kpOut kp n (dstsOf ops)) kps run ops (l.map (opS t ops l ms rk))).f⟩
  | none => ⟨fun _ _ _ _ => .no⟩
end Go.Drip
end

/-
Regions that draw their order: what is known from the text.
-/
set_option linter.unusedVariables false
set_option linter.unusedSimpArgs false
namespace Go.Drip

theorem bit_eq (m j : Nat) : bit m j = m.testBit j := by
  unfold bit
  rw [Nat.testBit_eq_decide_div_mod_eq]
  have : Nat.mod (Nat.shiftRight m j) 2 = m / 2 ^ j % 2 := by
    show (m >>> j) % 2 = _
    rw [Nat.shiftRight_eq_div_pow]
  rw [this]
  cases h : Nat.beq (m / 2 ^ j % 2) 1 with
  | true => simp [Nat.eq_of_beq_eq_true h]
  | false =>
    have : ¬ m / 2 ^ j % 2 = 1 := fun e => by rw [e] at h; cases h
    simp [this]
theorem maskE_bit {ms : List Nat} {es : List Edge} {j : Nat} (h : bit (maskE ms es) j = true) : ∃ e ∈ es, Region.binds .any e = true ∧ (j = e.on ∨ bit (ms.getD e.on 0) j = true) := by
  induction es with
  | nil => rw [bit_eq] at h; simp [maskE] at h
  | cons e es ih =>
    unfold maskE at h
    cases hb : Region.binds .any e with
    | false =>
      rw [hb] at h
      obtain ⟨e', h1, h2⟩ := ih h
      exact ⟨e', .tail _ h1, h2⟩
    | true =>
      rw [hb] at h
      change bit (Nat.lor (Nat.lor (2 ^ e.on) (ms.getD e.on 0)) (maskE ms es)) j = true at h
      rw [bit_eq] at h
      change ((2 ^ e.on ||| ms.getD e.on 0) ||| maskE ms es).testBit j = true at h
      simp only [Nat.testBit_or, Bool.or_eq_true, Nat.testBit_two_pow] at h
      rcases h with (h | h) | h
      · exact ⟨e, .head _, hb, .inl (by have := of_decide_eq_true h; omega)⟩
      · exact ⟨e, .head _, hb, .inr (by rw [bit_eq]; exact h)⟩
      · obtain ⟨e', h1, h2⟩ := ih (by rw [bit_eq]; exact h)
        exact ⟨e', .tail _ h1, h2⟩

theorem masks_prefix (l : List Oper) : ∀ ms : List Nat, ∃ r, masks l ms = ms ++ r ∧ r.length = l.length := by
  induction l with
  | nil => exact fun ms => ⟨[], by simp [masks], rfl⟩
  | cons o l ih =>
    intro ms
    obtain ⟨r, h1, h2⟩ := ih (ms ++ [maskE ms o.after.toList])
    exact ⟨maskE ms o.after.toList :: r, by unfold masks; rw [h1]; simp, by simp [h2]⟩
theorem masks_at (l : List Oper) : ∀ (ms : List Nat) (k : Nat) (o : Oper), l[k]? = some o → (masks l ms).getD (ms.length + k) 0 = maskE ((masks l ms).take (ms.length + k)) o.after.toList := by
  induction l with
  | nil => intro ms k o h; simp at h
  | cons o' l ih =>
    intro ms k o h
    cases k with
    | zero =>
      simp at h; subst h
      obtain ⟨r, h1, _⟩ := masks_prefix l (ms ++ [maskE ms o'.after.toList])
      unfold masks
      rw [h1]
      simp [List.getD]
    | succ k =>
      have := ih (ms ++ [maskE ms o'.after.toList]) k o (by simpa using h)
      unfold masks
      have e : ms.length + (k + 1) = (ms ++ [maskE ms o'.after.toList]).length + k := by simp; omega
      rw [e]; exact this
theorem edgesOk_at {l : List Oper} : ∀ {i : Nat}, edgesOk i l = true → ∀ (k : Nat) (o : Oper), l[k]? = some o → ∀ e ∈ o.after.toList, Region.binds .any e = true → e.on < i + k := by
  induction l with
  | nil => intro i _ k o h; simp at h
  | cons o' l ih =>
    intro i h k o hk e he hb
    simp only [edgesOk, Bool.and_eq_true, List.all_eq_true] at h
    cases k with
    | zero =>
      simp at hk; subst hk
      have := h.1 e he
      rw [hb] at this
      simpa [not'] using this
    | succ k =>
      have := ih h.2 k o (by simpa using hk) e he hb
      omega
/-- What must be done before, one step. -/
theorem anc_step {ops : List Oper} (hok : edgesOk 0 ops = true) {i j : Nat} {o : Oper} (ho : ops[i]? = some o) (h : bit ((masks ops []).getD i 0) j = true) :
    ∃ e ∈ o.after.toList, Region.binds .any e = true ∧ e.on < i ∧ (j = e.on ∨ bit ((masks ops []).getD e.on 0) j = true) := by
  have hm := masks_at ops [] i o ho
  simp only [List.length_nil, Nat.zero_add] at hm
  rw [hm] at h
  obtain ⟨e, h1, h2, h3⟩ := maskE_bit h
  have hlt := edgesOk_at hok i o ho e h1 h2
  rw [Nat.zero_add] at hlt
  refine ⟨e, h1, h2, hlt, h3.imp id fun h => ?_⟩
  have : (List.take i (masks ops [])).getD e.on 0 = (masks ops []).getD e.on 0 := by
    simp only [List.getD_eq_getElem?_getD]
    rw [List.getElem?_take_of_lt hlt]
  rw [← this]; exact h
theorem maskE_intro {ms : List Nat} {es : List Edge} {e : Edge} {j : Nat} (he : e ∈ es) (hb : Region.binds .any e = true) (h : j = e.on ∨ bit (ms.getD e.on 0) j = true) : bit (maskE ms es) j = true := by
  induction es with
  | nil => cases he
  | cons e' es ih =>
    unfold maskE
    cases hb' : Region.binds .any e' with
    | false =>
      cases he with
      | head => rw [hb] at hb'; cases hb'
      | tail _ he => exact ih he
    | true =>
      show bit (Nat.lor (Nat.lor (2 ^ e'.on) (ms.getD e'.on 0)) (maskE ms es)) j = true
      rw [bit_eq]
      show ((2 ^ e'.on ||| ms.getD e'.on 0) ||| maskE ms es).testBit j = true
      simp only [Nat.testBit_or, Bool.or_eq_true, Nat.testBit_two_pow]
      cases he with
      | head =>
        left
        rcases h with h | h
        · left; simp [h]
        · right; rw [← bit_eq]; exact h
      | tail _ he => right; rw [← bit_eq]; exact ih he
theorem anc_intro {ops : List Oper} (hok : edgesOk 0 ops = true) {i j : Nat} {o : Oper} (ho : ops[i]? = some o) {e : Edge} (he : e ∈ o.after.toList) (hb : Region.binds .any e = true)
    (h : j = e.on ∨ bit ((masks ops []).getD e.on 0) j = true) : bit ((masks ops []).getD i 0) j = true := by
  have hm := masks_at ops [] i o ho
  simp only [List.length_nil, Nat.zero_add] at hm
  rw [hm]
  have hlt := edgesOk_at hok i o ho e he hb
  rw [Nat.zero_add] at hlt
  refine maskE_intro he hb (h.imp id fun h => ?_)
  have : (List.take i (masks ops [])).getD e.on 0 = (masks ops []).getD e.on 0 := by
    simp only [List.getD_eq_getElem?_getD]
    rw [List.getElem?_take_of_lt hlt]
  rw [this]; exact h
theorem anc_trans {ops : List Oper} (hok : edgesOk 0 ops = true) : ∀ {i q j : Nat} {o : Oper}, ops[i]? = some o → bit ((masks ops []).getD i 0) q = true → bit ((masks ops []).getD q 0) j = true → bit ((masks ops []).getD i 0) j = true := by
  intro i
  induction i using Nat.strongRecOn with
  | ind i ih =>
    intro q j o ho h h'
    obtain ⟨e, h1, h2, h3, h4⟩ := anc_step hok ho h
    have hi := (List.getElem?_eq_some_iff.1 ho).1
    have he := List.getElem?_eq_getElem (l := ops) (i := e.on) (by omega)
    rcases h4 with rfl | h4
    · exact anc_intro hok ho h1 h2 (.inr h')
    · exact anc_intro hok ho h1 h2 (.inr (ih e.on h3 he h4 h'))
theorem anc_lt {ops : List Oper} (hok : edgesOk 0 ops = true) : ∀ {i j : Nat} {o : Oper}, ops[i]? = some o → bit ((masks ops []).getD i 0) j = true → j < i := by
  intro i
  induction i using Nat.strongRecOn with
  | ind i ih =>
    intro j o ho h
    obtain ⟨e, h1, h2, h3, h4⟩ := anc_step hok ho h
    rcases h4 with rfl | h4
    · exact h3
    · have hi := (List.getElem?_eq_some_iff.1 ho).1
      have he := List.getElem?_eq_getElem (l := ops) (i := e.on) (by omega)
      have := ih e.on h3 he h4
      omega

/-- Sets of operations with all that must be done before. -/
def Closed (ops : List Oper) (D : Nat → Prop) : Prop := ∀ (i : Nat) (o : Oper), ops[i]? = some o → D i → ∀ e ∈ o.after.toList, Region.binds .any e = true → D e.on
theorem closed_anc {ops : List Oper} (hok : edgesOk 0 ops = true) {D : Nat → Prop} (hD : Closed ops D) : ∀ {i j : Nat} {o : Oper}, ops[i]? = some o → (∀ e ∈ o.after.toList, Region.binds .any e = true → D e.on) → bit ((masks ops []).getD i 0) j = true → D j := by
  intro i
  induction i using Nat.strongRecOn with
  | ind i ih =>
    intro j o ho hr h
    obtain ⟨e, h1, h2, h3, h4⟩ := anc_step hok ho h
    have hDe := hr e h1 h2
    rcases h4 with rfl | h4
    · exact hDe
    · have hi := (List.getElem?_eq_some_iff.1 ho).1
      have he := List.getElem?_eq_getElem (l := ops) (i := e.on) (by omega)
      exact ih e.on h3 he (hD e.on _ he hDe) h4
end Go.Drip

/-
Regions that draw their order: an invariant over what is done.
-/
set_option linter.unusedVariables false
set_option linter.unusedSimpArgs false
namespace Go.Drip
section
variable {F : Fence} {P : Program} {ops : Array Oper} {Q : Exit → Act → World → Prop}

/-- What is listed. -/
def Done (listed : Array Bool) (i : Nat) : Prop := listed.getD i false = true

theorem ready_spec {listed : Array Bool} {i : Nat} (h : i ∈ Region.ready .any ops listed) : i < ops.size ∧ listed.getD i true = false ∧ ∃ o, ops[i]? = some o ∧ ∀ e ∈ o.after.toList, Region.binds .any e = true → Done listed e.on := by
  unfold Region.ready at h
  rw [List.mem_filter] at h
  obtain ⟨h1, h2⟩ := h
  have hi : i < ops.size := List.mem_range.1 h1
  simp only [Bool.and_eq_true, Bool.not_eq_true'] at h2
  obtain ⟨h2, h3⟩ := h2
  refine ⟨hi, h2, ops[i], Array.getElem?_eq_getElem hi, fun e he hb => ?_⟩
  simp only [Array.getElem?_eq_getElem hi, Option.map_some, Option.getD_some] at h3
  rw [Array.all_eq_true_iff_forall_mem] at h3
  have := h3 e (by simpa using he)
  rw [hb] at this
  simpa [Done] using this

/-- All is done when nothing can come up. -/
theorem all_done {listed : Array Bool} (hsz : listed.size = ops.size) (hok : edgesOk 0 ops.toList = true) (h : Region.ready .any ops listed = []) : ∀ i, i < ops.size → Done listed i := by
  intro i
  induction i using Nat.strongRecOn with
  | ind i ih =>
    intro hi
    cases hd : listed.getD i false with
    | true => exact hd
    | false =>
      exfalso
      have hmem : i ∈ Region.ready .any ops listed := by
        unfold Region.ready
        rw [List.mem_filter]
        refine ⟨List.mem_range.2 hi, ?_⟩
        have h1 : listed.getD i true = false := by
          have hl : i < listed.size := by omega
          simp [Array.getD, hl] at hd ⊢
          exact hd
        simp only [h1, Bool.not_false, Bool.true_and, Array.getElem?_eq_getElem hi, Option.map_some, Option.getD_some]
        rw [Array.all_eq_true_iff_forall_mem]
        intro e he
        cases hb : Region.binds .any e with
        | false => rfl
        | true =>
          have hlt := edgesOk_at hok i ops[i] (by simp [hi]) e (by simpa using he) hb
          rw [Nat.zero_add] at hlt
          have := ih e.on hlt (by omega)
          simpa [Done] using this
      rw [h] at hmem
      cases hmem

/-- How many are not listed. -/
def left (listed : Array Bool) : Nat := (listed.toList.filter (fun b => !b)).length
theorem left_set {listed : Array Bool} {i : Nat} (hi : i < listed.size) (h : listed.getD i true = false) : left (listed.setIfInBounds i true) + 1 = left listed := by
  unfold left
  have key : ∀ (l : List Bool) (i : Nat), l[i]? = some false → ((l.set i true).filter (fun b => !b)).length + 1 = (l.filter (fun b => !b)).length := by
    intro l
    induction l with
    | nil => intro i h; simp at h
    | cons b l ih =>
      intro i h
      cases i with
      | zero => simp at h; subst h; simp
      | succ i =>
        have := ih i (by simpa using h)
        cases b <;> simp [List.set] <;> simpa using this
  have := key listed.toList i (by simp [Array.getD, hi] at h; simp [hi, h])
  simpa using this

theorem wpAny_inv (hok : edgesOk 0 ops.toList = true) (I : Array Bool → Act → World → Prop) (hend : ∀ listed a w, listed.size = ops.size → I listed a w → (∀ i, i < ops.size → Done listed i) → Q .normal a w)
    (hstep : ∀ listed a w i o, listed.size = ops.size → I listed a w → ops[i]? = some o → ¬ Done listed i → (∀ e ∈ o.after.toList, Region.binds .any e = true → Done listed e.on) → wpOpIn F 0 P ops Q i (I (listed.setIfInBounds i true)) a w) :
    ∀ (fuel : Nat) (listed : Array Bool) (a : Act) (w : World), listed.size = ops.size → left listed = fuel → I listed a w → wpAnyIn F 0 P .any ops Q fuel listed a w := by
  have nr : ∀ listed a w, listed.size = ops.size → I listed a w → Region.ready .any ops listed = [] → Q .normal a w := fun listed a w hsz hI h => hend listed a w hsz hI (all_done hsz hok h)
  intro fuel
  induction fuel with
  | zero =>
    intro listed a w hsz hl hI
    have hr : Region.ready .any ops listed = [] := by
      cases h : Region.ready .any ops listed with
      | nil => rfl
      | cons i l =>
        obtain ⟨h1, h2, _⟩ := ready_spec (ops := ops) (listed := listed) (i := i) (by rw [h]; exact .head _)
        have := left_set (listed := listed) (by omega) h2
        omega
    exact ⟨hr, nr listed a w hsz hI hr⟩
  | succ fuel ih =>
    intro listed a w hsz hl hI
    refine ⟨nr listed a w hsz hI, fun i hi => ?_⟩
    obtain ⟨h1, h2, o, ho, hr⟩ := ready_spec hi
    have hls : i < listed.size := by omega
    have hnd : ¬ Done listed i := fun h => by
      simp [Done, Array.getD, hls] at h h2
      rw [h] at h2; cases h2
    exact wpOpIn_mono (fun a' w' hI' => ih _ a' w' (by simp [hsz]) (by have := left_set hls h2; omega) hI') (hstep listed a w i o hsz hI ho hnd hr)
end
end Go.Drip

/-
Regions that draw their order: the run in the order of the text, step by step.
-/
set_option linter.unusedVariables false
set_option linter.unusedSimpArgs false
namespace Go.Drip
section
variable {t : Tab} {kp : Kp} {kps : FuncId → Kp} {run : Run} {rec : Rec} {base : Nat} {T : Tr AV} {ops : List Oper}

/-- One step of the run. -/
inductive StepD (t : Tab) (kp : Kp) (kps : FuncId → Kp) (run : Run) (rec : Rec) (base : Nat) (T : Tr AV) (s : OpS) (d : DS) : DS → Prop
  | pure (v : AV) (hc : clsOf t s.o.op = .pure) (h : (opPure t kp s.o.op).f (envR s.us d.E) T = some v) : StepD t kp kps run rec base T s d (pushD d v none)
  | read (v : AV) (hc : clsOf t s.o.op = .read) (h : (opRead t kp s.o.op).f (envR s.us d.E) T (view s base d) = some v)
      (hu : ∀ u ∈ s.ue, (u.2 = true → apartC (touchAt d.L u.1) ((touchOp kp s.o.op).f (envR s.us d.E) T) = true) ∧ (u.2 = false → apartW (touchAt d.L u.1) ((touchOp kp s.o.op).f (envR s.us d.E) T) = true)) (hlt : apartC (some d.C.next) ((touchOp kp s.o.op).f (envR s.us d.E) T) = true) :
      StepD t kp kps run rec base T s d (pushD d v ((touchOp kp s.o.op).f (envR s.us d.E) T))
  | new (x : Tr Blk × (Nat → AV)) (hc : clsOf t s.o.op = .new) (h : (opNew t kp s.o.op).f (envR s.us d.E) T = some x) :
      StepD t kp kps run rec base T s d ⟨x.2 (base + s.q) :: d.E, none :: d.L, d.C, (s.i, base + s.q, x.1) :: d.NB⟩
  | write (v : AV) (C : AH) (hc : clsOf t s.o.op = .write) (h : (opWrite t kp s.o.op).f (envR s.us d.E) T (view s base d) = .ok v C)
      (hu : ∀ u ∈ s.ur, apartW ((touchOp kp s.o.op).f (envR s.us d.E) T) (touchAt d.L u) = true) (hlt : apartC (some maxH) ((touchOp kp s.o.op).f (envR s.us d.E) T) = true) (hn : d.C.next ≤ C.next) (hmx : C.next ≤ maxH) :
      StepD t kp kps run rec base T s d ⟨v :: d.E, (touchOp kp s.o.op).f (envR s.us d.E) T :: d.L, C, sel (fun e => not' (bit s.m e.1)) d.NB⟩
  | call (v : AV) (C : AH) (hc : clsOf t s.o.op = .call) (h : (opCall kp kps run s.o.op).f rec (envR s.us d.E) T (quietH s.quiet (view s base d)) = .ok v C)
      (hu : ∀ u ∈ s.ur, apartC (some d.C.next) (touchAt d.L u) = true) (hn : d.C.next ≤ C.next) (hmx : C.next ≤ maxH) :
      StepD t kp kps run rec base T s d ⟨v :: d.E, some d.C.next :: d.L, ⟨C.next, d.C.prot, C.tr⟩, sel (fun e => not' (bit s.m e.1)) d.NB⟩

/-- .. with its guard. -/
inductive GStep (t : Tab) (kp : Kp) (kps : FuncId → Kp) (run : Run) (ops : List Oper) (rec : Rec) (base : Nat) (T : Tr AV) (s : OpS) (d : DS) : DS → Prop
  | go (d' : DS) (hg : s.o.guard = none ∨ ∃ j want g, s.o.guard = some (j, want) ∧ guardOf ops j want = some g ∧ wanted g.2 ((getS kp g.1).f (envR s.us d.E) T) = some true) (h : StepD t kp kps run rec base T s d d') : GStep t kp kps run ops rec base T s d d'
  | skip (hg : ∃ j want, s.o.guard = some (j, want) ∧ (guardOf ops j want = none ∨ ∃ g, guardOf ops j want = some g ∧ wanted g.2 ((getS kp g.1).f (envR s.us d.E) T) = some false)) : GStep t kp kps run ops rec base T s d (pushD d undefA (skipL t s.o))

theorem allB_spec {α : Type} {f : α → Bool} {l : List α} (h : allB f l = true) : ∀ a ∈ l, f a = true := by
  induction l with
  | nil => intro a ha; cases ha
  | cons b l ih =>
    change cnd (f b) (allB f l) false = true at h
    cases hb : f b with
    | false => rw [hb] at h; cases h
    | true =>
      rw [hb] at h
      intro a ha
      cases ha with
      | head => exact hb
      | tail _ ha => exact ih h a ha
theorem cnd_go {c : Bool} {r : Res} {e : AE} {T' : Tr AV} {H' : AH} (h : cnd c r .no = .go e T' H') : c = true ∧ r = .go e T' H' := by cases c with | false => cases h | true => exact ⟨rfl, h⟩

theorem grows_go {C C' : AH} {r : Res} {e : AE} {T' : Tr AV} {H' : AH} (h : grows C C' r = .go e T' H') : C.next ≤ C'.next ∧ C'.next ≤ maxH ∧ r = .go e T' H' := by
  obtain ⟨h1, h2⟩ := cnd_go h
  obtain ⟨h3, h4⟩ := cnd_go h2
  exact ⟨Nat.le_of_ble_eq_true h1, Nat.le_of_ble_eq_true h3, h4⟩

theorem oneD_step {s : OpS} {d : DS} {k : DK} {e : AE} {T' : Tr AV} {H' : AH} (h : (oneD t kp kps run s).f rec base T d k = .go e T' H') : ∃ d', StepD t kp kps run rec base T s d d' ∧ k d' = .go e T' H' := by
  unfold oneD at h
  split at h
  · rename_i hc
    obtain ⟨v, hv, h2⟩ := sb_go h
    exact ⟨_, .pure v hc hv, h2⟩
  · rename_i hc
    obtain ⟨v, hv, h2⟩ := sb_go h
    obtain ⟨h6, h7⟩ := cnd_go h2
    obtain ⟨h3, h4⟩ := cnd_go h7
    refine ⟨_, .read v hc hv (fun u hu => ?_) h6, h4⟩
    have := allB_spec h3 u hu
    cases h5 : u.2 with
    | true => rw [h5] at this; exact ⟨fun _ => this, fun h => (by cases h)⟩
    | false => rw [h5] at this; exact ⟨fun h => (by cases h), fun _ => this⟩
  · rename_i hc
    obtain ⟨x, hx, h2⟩ := sb_go h
    exact ⟨_, .new x hc hx, h2⟩
  · rename_i hc
    obtain ⟨h6, h7⟩ := cnd_go h
    obtain ⟨h3, h4⟩ := cnd_go h7
    obtain ⟨v, C, hv, h5⟩ := vb_go h4
    obtain ⟨h8, h9, h10⟩ := grows_go h5
    exact ⟨_, .write v C hc hv (allB_spec h3) h6 h8 h9, h10⟩
  · rename_i hc
    obtain ⟨h3, h4⟩ := cnd_go h
    obtain ⟨v, C, hv, h5⟩ := vb_go h4
    obtain ⟨h8, h9, h10⟩ := grows_go h5
    exact ⟨_, .call v C hc hv (allB_spec h3) h8 h9, h10⟩

theorem opD_step {s : OpS} {d : DS} {k : DK} {e : AE} {T' : Tr AV} {H' : AH} (h : (opD t kp kps run ops s).f rec base T d k = .go e T' H') : ∃ d', GStep t kp kps run ops rec base T s d d' ∧ k d' = .go e T' H' := by
  unfold opD at h
  cases hg : s.o.guard with
  | none =>
    rw [hg] at h
    obtain ⟨d', h1, h2⟩ := oneD_step h
    exact ⟨d', .go d' (.inl hg) h1, h2⟩
  | some jw =>
    obtain ⟨j, want⟩ := jw
    rw [hg] at h
    simp only at h
    cases hgo : guardOf ops j want with
    | none => rw [hgo] at h; exact ⟨_, .skip ⟨j, want, hg, .inl hgo⟩, h⟩
    | some g =>
      rw [hgo] at h
      obtain ⟨b, hb, h2⟩ := sb_go (h : sb (wanted g.2 ((getS kp g.1).f (envR s.us d.E) T)) _ = _)
      cases b with
      | true =>
        obtain ⟨d', h3, h4⟩ := oneD_step h2
        exact ⟨d', .go d' (.inr ⟨j, want, g, hg, hgo, hb⟩) h3, h4⟩
      | false => exact ⟨_, .skip ⟨j, want, hg, .inr ⟨g, hgo, hb⟩⟩, h2⟩

/-- The whole run: the states between the operations. -/
theorem goD_trace : ∀ (l : List OpS) (d : DS) (k : DK) (e : AE) (T' : Tr AV) (H' : AH), (goD t kp kps run ops l).f rec base T d k = .go e T' H' →
    ∃ ds : Nat → DS, ds 0 = d ∧ (∀ i s, l[i]? = some s → GStep t kp kps run ops rec base T s (ds i) (ds (i + 1))) ∧ k (ds l.length) = .go e T' H'
  | [], d, k, e, T', H', h => ⟨fun _ => d, rfl, fun i s hs => by simp at hs, h⟩
  | s :: l, d, k, e, T', H', h => by
    obtain ⟨d', h1, h2⟩ := opD_step h
    obtain ⟨ds, h3, h4, h5⟩ := goD_trace l d' k e T' H' h2
    refine ⟨fun i => match i with | 0 => d | i + 1 => ds i, rfl, fun i s' hs => ?_, h5⟩
    cases i with
    | zero => simp at hs; subst hs; show GStep _ _ _ _ _ _ _ _ _ d (ds 0); rw [h3]; exact h1
    | succ i => exact h4 i s' (by simpa using hs)
end
end Go.Drip

/-
Regions that draw their order: heaps with new blocks put into them.
-/
set_option linter.unusedVariables false
set_option linter.unusedSimpArgs false
namespace Go.Drip

theorem sel_eq {α : Type} (f : α → Bool) (l : List α) : sel f l = l.filter f := by
  induction l with
  | nil => rfl
  | cons a l ih =>
    show cnd (f a) (a :: sel f l) (sel f l) = _
    rw [ih]
    cases h : f a <;> simp [h]
theorem clearIds_fields (base : Nat) (l : List Nat) (C : AH) : (clearIds base l C).next = C.next ∧ (clearIds base l C).prot = C.prot := by
  induction l with
  | nil => exact ⟨rfl, rfl⟩
  | cons q l ih => exact ih
theorem putNB_fields (f : Nat → Bool) (l : List (Nat × Nat × Tr Blk)) (C : AH) : (putNB f l C).next = C.next ∧ (putNB f l C).prot = C.prot := by
  induction l with
  | nil => exact ⟨rfl, rfl⟩
  | cons e l ih =>
    show (cnd (f e.1) ((putNB f l C).upd e.2.1 e.2.2) (putNB f l C)).next = _ ∧ (cnd (f e.1) ((putNB f l C).upd e.2.1 e.2.2) (putNB f l C)).prot = _
    cases f e.1 <;> exact ih
theorem get_clearIds {base : Nat} {l : List Nat} {C : AH} {b : Nat} (hb : b < maxH) (hl : ∀ q ∈ l, base + q < maxH) : (clearIds base l C).get b = if ∃ q ∈ l, base + q = b then none else C.get b := by
  induction l with
  | nil => simp [clearIds]
  | cons q l ih =>
    have ih := ih fun q' hq' => hl q' (.tail _ hq')
    show ((clearIds base l C).upd (base + q) .nil).get b = _
    by_cases h : base + q = b
    · rw [if_pos ⟨q, .head _, h⟩, h]
      exact AH.get_upd_nil _ _
    · rw [AH.get_upd_ne _ _ (hl q (.head _)) hb h, ih]
      by_cases h2 : ∃ q' ∈ l, base + q' = b
      · rw [if_pos h2, if_pos]
        obtain ⟨q', h3, h4⟩ := h2
        exact ⟨q', .tail _ h3, h4⟩
      · rw [if_neg h2, if_neg]
        rintro ⟨q', h3, h4⟩
        cases h3 with
        | head => exact h h4
        | tail _ h3 => exact h2 ⟨q', h3, h4⟩
theorem get_putNB_out {f : Nat → Bool} {l : List (Nat × Nat × Tr Blk)} {C : AH} {b : Nat} (hb : b < maxH) (hl : ∀ e ∈ l, e.2.1 < maxH) (h : ∀ e ∈ l, f e.1 = true → e.2.1 ≠ b) : (putNB f l C).get b = C.get b := by
  induction l with
  | nil => rfl
  | cons e l ih =>
    have ih := ih (fun e' he' => hl e' (.tail _ he')) fun e' he' => h e' (.tail _ he')
    show (cnd (f e.1) ((putNB f l C).upd e.2.1 e.2.2) (putNB f l C)).get b = _
    cases hf : f e.1 with
    | false => exact ih
    | true =>
      show ((putNB f l C).upd e.2.1 e.2.2).get b = _
      rw [AH.get_upd_ne _ _ (hl e (.head _)) hb (h e (.head _) hf)]; exact ih
/-- Entries whose ids tell them apart. -/
def Apart (l : List (Nat × Nat × Tr Blk)) : Prop := ∀ e ∈ l, ∀ e' ∈ l, e.2.1 = e'.2.1 → e = e'
theorem get_putNB_in {f : Nat → Bool} {l : List (Nat × Nat × Tr Blk)} {C : AH} (hl : ∀ e ∈ l, e.2.1 < maxH) (ha : Apart l) {e : Nat × Nat × Tr Blk} (he : e ∈ l) (hf : f e.1 = true) : (putNB f l C).get e.2.1 = Tr.get [] e.2.2 := by
  induction l with
  | nil => cases he
  | cons e0 l ih =>
    show (cnd (f e0.1) ((putNB f l C).upd e0.2.1 e0.2.2) (putNB f l C)).get e.2.1 = _
    have rest : e ∈ l → (putNB f l C).get e.2.1 = Tr.get [] e.2.2 := fun h => ih (fun e' he' => hl e' (.tail _ he')) (fun e' he' e'' he'' => ha e' (.tail _ he') e'' (.tail _ he'')) h
    cases hf0 : f e0.1 with
    | false =>
      cases he with
      | head => rw [hf] at hf0; cases hf0
      | tail _ h => exact rest h
    | true =>
      show ((putNB f l C).upd e0.2.1 e0.2.2).get e.2.1 = _
      by_cases h : e0.2.1 = e.2.1
      · have := ha e0 (.head _) e he h
        subst this
        exact get_put_same _ _ _
      · rw [AH.get_upd_ne _ _ (hl e0 (.head _)) (hl e he) h]
        cases he with
        | head => exact absurd rfl h
        | tail _ he => exact rest he
end Go.Drip

/-
Regions that draw their order: what is known of an operation.
-/
set_option linter.unusedVariables false
set_option linter.unusedSimpArgs false
namespace Go.Drip

theorem numbered_spec {l : List Oper} : ∀ {k i : Nat} {o : Oper}, (i, o) ∈ numbered k l ↔ k ≤ i ∧ l[i - k]? = some o := by
  induction l with
  | nil => intro k i o; simp [numbered]
  | cons o' l ih =>
    intro k i o
    simp only [numbered, List.mem_cons, Prod.mk.injEq, ih]
    constructor
    · rintro (⟨rfl, rfl⟩ | ⟨h1, h2⟩)
      · exact ⟨Nat.le_refl _, by simp⟩
      · refine ⟨by omega, ?_⟩
        have : i - k = (i - (k + 1)) + 1 := by omega
        rw [this]; simpa using h2
    · rintro ⟨h1, h2⟩
      by_cases h : i = k
      · subst h; simp at h2; exact .inl ⟨rfl, h2.symm⟩
      · right
        refine ⟨by omega, ?_⟩
        have : i - k = (i - (k + 1)) + 1 := by omega
        rw [this] at h2; simpa using h2
theorem numbered0 {l : List Oper} {i : Nat} {o : Oper} : (i, o) ∈ numbered 0 l ↔ l[i]? = some o := by rw [numbered_spec]; simp
theorem numbered_get {l : List Oper} : ∀ {k i : Nat}, (numbered k l)[i]? = (l[i]?).map fun o => (k + i, o) := by
  induction l with
  | nil => intro k i; simp [numbered]
  | cons o l ih =>
    intro k i
    cases i with
    | zero => simp [numbered]
    | succ i => simp only [numbered, List.getElem?_cons_succ]; rw [ih]; congr 1; funext o; congr 1; omega

theorem ranks_lt (t : Tab) : ∀ {l : List (Nat × Oper)} {q j r : Nat}, (j, r) ∈ ranks t l q → q ≤ r ∧ r < q + (ranks t l q).length := by
  intro l
  induction l with
  | nil => intro q j r h; simp [ranks] at h
  | cons a l ih =>
    intro q j r h
    unfold ranks at h ⊢
    split at h
    · rename_i hn
      rw [if_pos hn]
      simp only [List.mem_cons, Prod.mk.injEq, List.length_cons] at h ⊢
      rcases h with ⟨rfl, rfl⟩ | h
      · omega
      · have := ih h; omega
    · rename_i hn
      rw [if_neg hn]
      exact ih h
theorem ranks_mem (t : Tab) : ∀ {l : List (Nat × Oper)} {q j r : Nat}, (j, r) ∈ ranks t l q → ∃ o, (j, o) ∈ l ∧ isNew t o = true := by
  intro l
  induction l with
  | nil => intro q j r h; simp [ranks] at h
  | cons a l ih =>
    intro q j r h
    unfold ranks at h
    split at h
    · rename_i hn
      simp only [List.mem_cons, Prod.mk.injEq] at h
      rcases h with ⟨rfl, rfl⟩ | h
      · exact ⟨a.2, .head _, hn⟩
      · obtain ⟨o, h1, h2⟩ := ih h; exact ⟨o, .tail _ h1, h2⟩
    · obtain ⟨o, h1, h2⟩ := ih h; exact ⟨o, .tail _ h1, h2⟩
theorem ranks_inj (t : Tab) : ∀ {l : List (Nat × Oper)} {q j j' r : Nat}, (j, r) ∈ ranks t l q → (j', r) ∈ ranks t l q → j = j' := by
  intro l
  induction l with
  | nil => intro q j j' r h; simp [ranks] at h
  | cons a l ih =>
    intro q j j' r h h'
    unfold ranks at h h'
    split at h
    · rename_i hn
      rw [if_pos hn] at h'
      simp only [List.mem_cons, Prod.mk.injEq] at h h'
      rcases h with ⟨rfl, rfl⟩ | h <;> rcases h' with ⟨rfl, h'⟩ | h'
      · rfl
      · have := (ranks_lt t h').1; omega
      · have := (ranks_lt t h).1; omega
      · exact ih h h'
    · rename_i hn
      rw [if_neg hn] at h'
      exact ih h h'
theorem ranks_fun (t : Tab) : ∀ {l : List Oper} {k q j r r' : Nat}, (j, r) ∈ ranks t (numbered k l) q → (j, r') ∈ ranks t (numbered k l) q → r = r' := by
  intro l
  induction l with
  | nil => intro k q j r r' h; simp [numbered, ranks] at h
  | cons o l ih =>
    intro k q j r r' h h'
    have hlt : ∀ {j r q : Nat}, (j, r) ∈ ranks t (numbered (k + 1) l) q → k < j := fun h => by
      obtain ⟨o, h1, _⟩ := ranks_mem t h
      exact (numbered_spec.1 h1).1
    unfold numbered ranks at h h'
    split at h
    · rename_i hn
      rw [if_pos hn] at h'
      simp only [List.mem_cons, Prod.mk.injEq] at h h'
      rcases h with ⟨rfl, rfl⟩ | h <;> rcases h' with ⟨h', h''⟩ | h'
      · exact h''.symm
      · have := hlt h'; omega
      · subst h'; have := hlt h; omega
      · exact ih h h'
    · rename_i hn
      rw [if_neg hn] at h'
      exact ih h h'
theorem ranks_find (t : Tab) {l : List (Nat × Oper)} : ∀ {q j : Nat} {o : Oper}, (j, o) ∈ l → isNew t o = true → (∀ o' , (j, o') ∈ l → o' = o) → ∃ r, (ranks t l q).find? (fun r => r.1 == j) = some (j, r) := by
  induction l with
  | nil => intro q j o h; cases h
  | cons a l ih =>
    intro q j o h hn hu
    unfold ranks
    by_cases ha : isNew t a.2 = true
    · rw [if_pos ha]
      by_cases hj : a.1 = j
      · exact ⟨q, by simp [hj]⟩
      · have : (j, o) ∈ l := by
          cases h with
          | head => exact absurd rfl hj
          | tail _ h => exact h
        obtain ⟨r, hr⟩ := ih (q := q + 1) this hn fun o' h' => hu o' (.tail _ h')
        refine ⟨r, ?_⟩
        rw [List.find?_cons]
        have : (a.1 == j) = false := by simpa using hj
        simp only [this]; exact hr
    · rw [if_neg ha]
      have : (j, o) ∈ l := by
        cases h with
        | head => exact absurd hn ha
        | tail _ h => exact h
      exact ih this hn fun o' h' => hu o' (.tail _ h')
end Go.Drip

/-
Regions that draw their order: what an operation's record says.
-/
set_option linter.unusedVariables false
set_option linter.unusedSimpArgs false
namespace Go.Drip
section
variable {t : Tab} {ops : List Oper}
/-- The record of an operation. -/
noncomputable abbrev recOf (t : Tab) (ops : List Oper) (i : Nat) (o : Oper) : OpS := opS t ops (numbered 0 ops) (masks ops []) (ranks t (numbered 0 ops) 0) (i, o)
/-- What must be done before. -/
noncomputable abbrev anc (ops : List Oper) (i j : Nat) : Bool := bit ((masks ops []).getD i 0) j

theorem recOf_o (i : Nat) (o : Oper) : (recOf t ops i o).o = o := rfl
theorem recOf_i (i : Nat) (o : Oper) : (recOf t ops i o).i = i := rfl
theorem recOf_m (i : Nat) (o : Oper) (j : Nat) : bit (recOf t ops i o).m j = anc ops i j := rfl
theorem us_spec {i : Nat} {o : Oper} {d : Tmp} {k : Nat} (h : (d, k) ∈ (recOf t ops i o).us) : (∃ j oj, j < i ∧ ops[j]? = some oj ∧ anc ops i j = true ∧ oj.dst = some d ∧ k = i - 1 - j) ∨
    ∃ x ox, ops[x]? = some ox ∧ (x = i ∨ anc ops x i = true) ∧ ox.dst = some d ∧ k = i + x := by
  simp only [recOf, opS, List.mem_append, List.mem_filterMap] at h
  rcases h with ⟨⟨j, oj⟩, h1, h2⟩ | ⟨⟨j, oj⟩, h1, h2⟩
  · left
    simp only at h2
    split at h2
    · rename_i hc
      simp only [Bool.and_eq_true, decide_eq_true_eq] at hc
      split at h2
      · rename_i d' hd
        split at h2
        · injection h2 with h2
          injection h2 with h3 h4
          subst h3
          exact ⟨j, oj, hc.1, numbered0.1 h1, hc.2, hd, h4.symm⟩
        · cases h2
      · cases h2
    · cases h2
  · right
    simp only at h2
    split at h2
    · rename_i hc
      simp only [Bool.or_eq_true, decide_eq_true_eq] at hc
      split at h2
      · rename_i d' hd
        split at h2
        · injection h2 with h2
          injection h2 with h3 h4
          subst h3
          exact ⟨j, oj, numbered0.1 h1, hc, hd, h4.symm⟩
        · cases h2
      · cases h2
    · cases h2
theorem news_spec {i : Nat} {o : Oper} {q : Nat} : q ∈ (recOf t ops i o).news ↔ ∃ j, (j, q) ∈ ranks t (numbered 0 ops) 0 ∧ anc ops i j = false := by
  simp only [recOf, opS, List.mem_filterMap]
  constructor
  · rintro ⟨⟨j, r⟩, h1, h2⟩
    simp only at h2
    split at h2
    · cases h2
    · rename_i hb
      injection h2 with h2; subst h2
      exact ⟨j, h1, by simpa [-List.getD_eq_getElem?_getD] using hb⟩
  · rintro ⟨j, h1, h2⟩
    refine ⟨(j, q), h1, ?_⟩
    have h2 : bit ((masks ops []).getD i 0) j = false := h2
    simp [-List.getD_eq_getElem?_getD, h2]
theorem ue_spec {i j : Nat} {o oj : Oper} (hj : ops[j]? = some oj) (hlt : j < i) (hb : anc ops i j = false) (hc : isChain t oj = true) : (i - 1 - j, isCallC t oj) ∈ (recOf t ops i o).ue := by
  simp only [recOf, opS, List.mem_filterMap]
  refine ⟨(j, oj), numbered0.2 hj, ?_⟩
  have hb : bit ((masks ops []).getD i 0) j = false := hb
  simp [-List.getD_eq_getElem?_getD, hlt, hb, hc]
theorem ur_spec {i j : Nat} {o oj : Oper} (hj : ops[j]? = some oj) (hlt : j < i) (hb : anc ops i j = false) (hc : isRead t oj = true) : i - 1 - j ∈ (recOf t ops i o).ur := by
  simp only [recOf, opS, List.mem_filterMap]
  refine ⟨(j, oj), numbered0.2 hj, ?_⟩
  have hb : bit ((masks ops []).getD i 0) j = false := hb
  simp [-List.getD_eq_getElem?_getD, hlt, hb, hc]
theorem quiet_spec {i j : Nat} {o oj : Oper} (hj : ops[j]? = some oj) (hb : anc ops i j = false) (hb' : anc ops j i = false) (hc : isRead t oj = true) : (recOf t ops i o).quiet = true := by
  simp only [recOf, opS, List.any_eq_true]
  refine ⟨(j, oj), numbered0.2 hj, ?_⟩
  have hb : bit ((masks ops []).getD i 0) j = false := hb
  have hb' : bit ((masks ops []).getD j 0) i = false := hb'
  simp [-List.getD_eq_getElem?_getD, hb, hb', hc]
theorem q_spec {i : Nat} {o : Oper} (hi : ops[i]? = some o) (hn : isNew t o = true) : (i, (recOf t ops i o).q) ∈ ranks t (numbered 0 ops) 0 := by
  obtain ⟨r, hr⟩ := ranks_find t (q := 0) (numbered0.2 hi) hn fun o' h' => by
    have := numbered0.1 h'
    rw [hi] at this; injection this with this; exact this.symm
  have hq : (recOf t ops i o).q = r := by
    simp only [recOf, opS]
    rw [hr]; rfl
  rw [hq]
  exact List.mem_of_find?_eq_some hr
theorem chain_spec (h : chainOk t (masks ops []) (numbered 0 ops) = true) {i j : Nat} {oi oj : Oper} (hi : ops[i]? = some oi) (hj : ops[j]? = some oj) (ci : isChain t oi = true) (cj : isChain t oj = true) (hlt : i < j) : anc ops j i = true := by
  unfold chainOk at h
  rw [List.all_eq_true] at h
  have h1 := h (i, oi) (numbered0.2 hi)
  rw [List.all_eq_true] at h1
  have h2 := h1 (j, oj) (numbered0.2 hj)
  simpa [-List.getD_eq_getElem?_getD, ci, cj, hlt, not'] using h2
end
end Go.Drip

/-
Regions that draw their order: the lists of the canonical run.
-/
set_option linter.unusedVariables false
set_option linter.unusedSimpArgs false
namespace Go.Drip
section
variable {t : Tab} {kp : Kp} {kps : FuncId → Kp} {run : Run} {rec : Rec} {base : Nat} {T : Tr AV} {ops : List Oper}

theorem GStep.lists {s : OpS} {d d' : DS} (h : GStep t kp kps run ops rec base T s d d') : ∃ v l, d'.E = v :: d.E ∧ d'.L = l :: d.L := by
  cases h with
  | go d' hg h => cases h <;> exact ⟨_, _, rfl, rfl⟩
  | skip hg => exact ⟨_, _, rfl, rfl⟩

/-- The canonical run of a region. -/
structure Trace (t : Tab) (kp : Kp) (kps : FuncId → Kp) (run : Run) (ops : List Oper) (rec : Rec) (base : Nat) (T : Tr AV) (ds : Nat → DS) : Prop where
  L0 : (ds 0).L = []
  NB0 : (ds 0).NB = []
  step : ∀ i o, ops[i]? = some o → GStep t kp kps run ops rec base T (recOf t ops i o) (ds i) (ds (i + 1))

/-- The value of an operation; what it touches. -/
noncomputable def valOf (ds : Nat → DS) (j : Nat) : AV := opt (nth (ds (j + 1)).E 0) .any fun x => x
noncomputable def tchOf (ds : Nat → DS) (j : Nat) : Option Nat := touchAt (ds (j + 1)).L 0

theorem Trace.E {ds : Nat → DS} (h : Trace t kp kps run ops rec base T ds) : ∀ i, i ≤ ops.length → (∀ x, (ds i).E[i + x]? = (ds 0).E[x]?) ∧ (ds i).L.length = i ∧ (∀ j, j < i → (ds i).E[i - 1 - j]? = some (valOf ds j)) ∧ ∀ j, j < i → touchAt (ds i).L (i - 1 - j) = tchOf ds j := by
  intro i
  induction i with
  | zero => intro _; exact ⟨fun x => by rw [Nat.zero_add], by rw [h.L0]; rfl, fun j hj => absurd hj (Nat.not_lt_zero _), fun j hj => absurd hj (Nat.not_lt_zero _)⟩
  | succ i ih =>
    intro hi
    obtain ⟨h1, h2, h3, h4⟩ := ih (by omega)
    have ho := List.getElem?_eq_getElem (l := ops) (i := i) (by omega)
    obtain ⟨v, l, e1, e2⟩ := (h.step i _ ho).lists
    refine ⟨fun x => by rw [e1, show i + 1 + x = (i + x) + 1 by omega, List.getElem?_cons_succ]; exact h1 x, by rw [e2]; simp [h2], fun j hj => ?_, fun j hj => ?_⟩
    · by_cases hji : j = i
      · subst hji
        have : j + 1 - 1 - j = 0 := by omega
        rw [this, e1]
        simp [valOf, e1, opt_some]
      · have : i + 1 - 1 - j = (i - 1 - j) + 1 := by omega
        rw [this, e1, List.getElem?_cons_succ]
        exact h3 j (by omega)
    · by_cases hji : j = i
      · subst hji
        have : j + 1 - 1 - j = 0 := by omega
        rw [this]; rfl
      · have : i + 1 - 1 - j = (i - 1 - j) + 1 := by omega
        rw [this, e2]
        have := h4 j (by omega)
        unfold touchAt at this ⊢
        rw [nth_eq, List.getElem?_cons_succ, ← nth_eq]
        exact this

/-- What an operation asks for. -/
theorem look_envR {us : List (Tmp × Nat)} {E : List AV} {i : Nat} : (look i (envR us E) = .any) ∨ ∃ k, (i, k) ∈ us ∧ look i (envR us E) = opt (nth E k) .any fun x => x := by
  induction us with
  | nil => exact .inl rfl
  | cons u us ih =>
    have e : look i (envR (u :: us) E) = cnd (Nat.beq u.1 i) (opt (nth E u.2) .any fun x => x) (look i (envR us E)) := rfl
    rw [e]
    cases hb : Nat.beq u.1 i with
    | true =>
      have := Nat.eq_of_beq_eq_true hb
      exact .inr ⟨u.2, by rw [← this]; exact .head _, rfl⟩
    | false =>
      rcases ih with h | ⟨k, h1, h2⟩
      · exact .inl h
      · exact .inr ⟨k, .tail _ h1, h2⟩
end
end Go.Drip

/-
Regions that draw their order: which operations are done, and what they did.
-/
set_option linter.unusedVariables false
set_option linter.unusedSimpArgs false
namespace Go.Drip
section
variable {t : Tab} {kp : Kp} {kps : FuncId → Kp} {run : Run} {rec : Rec} {base : Nat} {T : Tr AV} {ops : List Oper} {ds : Nat → DS}

/-- Whether the guard of an operation lets it go. -/
def Goes (kp : Kp) (T : Tr AV) (ops : List Oper) (s : OpS) (d : DS) : Prop :=
  s.o.guard = none ∨ ∃ j want g, s.o.guard = some (j, want) ∧ guardOf ops j want = some g ∧ wanted g.2 ((getS kp g.1).f (envR s.us d.E) T) = some true
theorem GStep.goes {s : OpS} {d d' : DS} (h : GStep t kp kps run ops rec base T s d d') (hg : Goes kp T ops s d) : StepD t kp kps run rec base T s d d' := by
  cases h with
  | go d' _ h => exact h
  | skip hs =>
    obtain ⟨j, want, h1, h2⟩ := hs
    rcases hg with h | ⟨j', want', g, h3, h4, h5⟩
    · rw [h] at h1; cases h1
    · rw [h1] at h3; injection h3 with h3; injection h3 with h6 h7; subst h6; subst h7
      rcases h2 with h | ⟨g', h8, h9⟩
      · rw [h] at h4; cases h4
      · rw [h8] at h4; injection h4 with h4; subst h4
        rw [h9] at h5; injection h5 with h5; cases h5
theorem GStep.stays {s : OpS} {d d' : DS} (h : GStep t kp kps run ops rec base T s d d') (hg : ¬ Goes kp T ops s d) : d' = pushD d undefA (skipL t s.o) := by
  cases h with
  | go d' hg' _ => exact absurd hg' hg
  | skip _ => rfl

/-- A call or a write is done here. -/
def ChX (t : Tab) (kp : Kp) (T : Tr AV) (ops : List Oper) (ds : Nat → DS) (i : Nat) : Prop := ∃ o, ops[i]? = some o ∧ isChain t o = true ∧ Goes kp T ops (recOf t ops i o) (ds i)
/-- A new block is laid here. -/
def NwX (t : Tab) (kp : Kp) (T : Tr AV) (ops : List Oper) (ds : Nat → DS) (i : Nat) : Prop := ∃ o, ops[i]? = some o ∧ isNew t o = true ∧ Goes kp T ops (recOf t ops i o) (ds i)

theorem chain_cls {o : Oper} (h : isChain t o = true) : clsOf t o.op = .write ∨ clsOf t o.op = .call := by
  unfold isChain at h
  split at h
  · exact .inl ‹_›
  · exact .inr ‹_›
  · cases h
theorem new_cls {o : Oper} (h : isNew t o = true) : clsOf t o.op = .new := by
  unfold isNew at h
  split at h
  · assumption
  · cases h

/-- An operation that is neither leaves heap and new blocks. -/
theorem Trace.quietly (h : Trace t kp kps run ops rec base T ds) {i : Nat} {o : Oper} (ho : ops[i]? = some o) (hc : ¬ ChX t kp T ops ds i) (hn : ¬ NwX t kp T ops ds i) : (ds (i + 1)).C = (ds i).C ∧ (ds (i + 1)).NB = (ds i).NB := by
  have hs := h.step i o ho
  by_cases hg : Goes kp T ops (recOf t ops i o) (ds i)
  · have hd := hs.goes hg
    generalize ds (i + 1) = d' at *
    cases hd with
    | pure v hcl hx => exact ⟨rfl, rfl⟩
    | read v hcl hx hu => exact ⟨rfl, rfl⟩
    | new x hcl hx => exact absurd ⟨o, ho, by unfold isNew; rw [show clsOf t o.op = _ from hcl], hg⟩ hn
    | write v C hcl hx hu => exact absurd ⟨o, ho, by unfold isChain; rw [show clsOf t o.op = _ from hcl], hg⟩ hc
    | call v C hcl hx hu => exact absurd ⟨o, ho, by unfold isChain; rw [show clsOf t o.op = _ from hcl], hg⟩ hc
  · rw [hs.stays hg]; exact ⟨rfl, rfl⟩
end
end Go.Drip

/-
Regions that draw their order: the new blocks that stand aside.
-/
set_option linter.unusedVariables false
set_option linter.unusedSimpArgs false
namespace Go.Drip
section
variable {t : Tab} {kp : Kp} {kps : FuncId → Kp} {run : Run} {rec : Rec} {base : Nat} {T : Tr AV} {ops : List Oper} {ds : Nat → DS}

/-- A call or a write below a number has seen a new block. -/
def Merged (t : Tab) (kp : Kp) (T : Tr AV) (ops : List Oper) (ds : Nat → DS) (i j : Nat) : Prop := ∃ q, q < i ∧ ChX t kp T ops ds q ∧ anc ops q j = true
/-- The entry of a new block. -/
noncomputable def entOf (ds : Nat → DS) (j : Nat) : Nat × Nat × Tr Blk := opt (nth (ds (j + 1)).NB 0) (0, 0, .nil) fun x => x

theorem not_both {i : Nat} (h : ChX t kp T ops ds i) (h' : NwX t kp T ops ds i) : False := by
  obtain ⟨o, h1, h2, _⟩ := h
  obtain ⟨o', h3, h4, _⟩ := h'
  rw [h1] at h3; injection h3 with h3; subst h3
  have := new_cls h4
  rcases chain_cls h2 with h | h <;> rw [this] at h <;> cases h

theorem Trace.newly (h : Trace t kp kps run ops rec base T ds) {i : Nat} (hn : NwX t kp T ops ds i) : ∃ o x, ops[i]? = some o ∧ clsOf t o.op = .new ∧ (opNew t kp o.op).f (envR (recOf t ops i o).us (ds i).E) T = some x ∧
    (ds (i + 1)).C = (ds i).C ∧ entOf ds i = (i, base + (recOf t ops i o).q, x.1) ∧ (ds (i + 1)).NB = entOf ds i :: (ds i).NB ∧ valOf ds i = x.2 (base + (recOf t ops i o).q) := by
  obtain ⟨o, ho, hno, hg⟩ := hn
  have hd := (h.step i o ho).goes hg
  have hcl := new_cls hno
  refine ⟨o, ?_⟩
  unfold entOf valOf
  generalize ds (i + 1) = d' at *
  cases hd with
  | new x hc hx => exact ⟨x, ho, hcl, hx, rfl, rfl, rfl, rfl⟩
  | pure v hc _ => rw [show clsOf t o.op = _ from hc] at hcl; cases hcl
  | read v hc _ _ => rw [show clsOf t o.op = _ from hc] at hcl; cases hcl
  | write v C hc _ _ => rw [show clsOf t o.op = _ from hc] at hcl; cases hcl
  | call v C hc _ _ => rw [show clsOf t o.op = _ from hc] at hcl; cases hcl

theorem Trace.chained (h : Trace t kp kps run ops rec base T ds) {i : Nat} (hc : ChX t kp T ops ds i) : (ds (i + 1)).NB = (ds i).NB.filter fun e => !anc ops i e.1 := by
  obtain ⟨o, ho, hco, hg⟩ := hc
  have hd := (h.step i o ho).goes hg
  have hf : (fun e : Nat × Nat × Tr Blk => not' (bit (recOf t ops i o).m e.1)) = fun e => !anc ops i e.1 := funext fun e => not'_eq _
  rcases chain_cls hco with hcl | hcl <;> generalize ds (i + 1) = d' at * <;> cases hd with
  | new x hc hx => rw [show clsOf t o.op = _ from hc] at hcl; cases hcl
  | pure v hc _ => rw [show clsOf t o.op = _ from hc] at hcl; cases hcl
  | read v hc _ _ => rw [show clsOf t o.op = _ from hc] at hcl; cases hcl
  | write v C hc _ _ => show sel _ _ = _; rw [sel_eq, hf]
  | call v C hc _ _ => show sel _ _ = _; rw [sel_eq, hf]

theorem Trace.NB (h : Trace t kp kps run ops rec base T ds) (hok : edgesOk 0 ops = true) : ∀ i, i ≤ ops.length → ∀ e, e ∈ (ds i).NB ↔ ∃ j, j < i ∧ NwX t kp T ops ds j ∧ ¬ Merged t kp T ops ds i j ∧ e = entOf ds j := by
  intro i
  induction i with
  | zero => intro _ e; rw [h.NB0]; exact ⟨fun h => (by cases h), fun ⟨j, hj, _⟩ => absurd hj (Nat.not_lt_zero _)⟩
  | succ i ih =>
    intro hi e
    have ih := ih (by omega) e
    have ho := List.getElem?_eq_getElem (l := ops) (i := i) (by omega)
    have hm : ∀ j, ¬ ChX t kp T ops ds i → (Merged t kp T ops ds (i + 1) j ↔ Merged t kp T ops ds i j) := fun j hc =>
      ⟨fun ⟨q, h1, h2, h3⟩ => ⟨q, by rcases Nat.lt_or_eq_of_le (Nat.le_of_lt_succ h1) with h | h; · exact h
                                     · subst h; exact absurd h2 hc, h2, h3⟩, fun ⟨q, h1, h2, h3⟩ => ⟨q, by omega, h2, h3⟩⟩
    by_cases hc : ChX t kp T ops ds i
    · rw [h.chained hc, List.mem_filter, ih]
      constructor
      · rintro ⟨⟨j, h1, h2, h3, rfl⟩, h4⟩
        obtain ⟨o, x, _, _, _, _, he, _⟩ := h.newly h2
        refine ⟨j, by omega, h2, fun ⟨q, q1, q2, q3⟩ => ?_, rfl⟩
        rcases Nat.lt_or_eq_of_le (Nat.le_of_lt_succ q1) with hq | hq
        · exact h3 ⟨q, hq, q2, q3⟩
        · subst hq
          rw [he] at h4
          simp only [Bool.not_eq_true'] at h4
          rw [q3] at h4; cases h4
      · rintro ⟨j, h1, h2, h3, rfl⟩
        have hji : j ≠ i := fun e => by subst e; exact not_both hc h2
        obtain ⟨o, x, _, _, _, _, he, _⟩ := h.newly h2
        refine ⟨⟨j, by omega, h2, fun ⟨q, q1, q2, q3⟩ => h3 ⟨q, by omega, q2, q3⟩, rfl⟩, ?_⟩
        rw [he]
        cases ha : anc ops i j with
        | false => rfl
        | true => exact absurd ⟨i, Nat.lt_succ_self _, hc, ha⟩ h3
    · by_cases hn : NwX t kp T ops ds i
      · obtain ⟨o, x, ho', _, _, _, he, hNB, _⟩ := h.newly hn
        rw [hNB, List.mem_cons, ih]
        constructor
        · rintro (rfl | ⟨j, h1, h2, h3, rfl⟩)
          · refine ⟨i, Nat.lt_succ_self _, hn, fun hmg => ?_, rfl⟩
            obtain ⟨q, q1, q2, q3⟩ := (hm i hc).1 hmg
            obtain ⟨oq, hoq, _⟩ := q2
            have := anc_lt hok hoq q3
            omega
          · exact ⟨j, by omega, h2, fun hmg => h3 ((hm j hc).1 hmg), rfl⟩
        · rintro ⟨j, h1, h2, h3, rfl⟩
          by_cases hji : j = i
          · subst hji; exact .inl rfl
          · exact .inr ⟨j, by omega, h2, fun hmg => h3 ((hm j hc).2 hmg), rfl⟩
      · rw [(h.quietly ho hc hn).2, ih]
        constructor
        · rintro ⟨j, h1, h2, h3, rfl⟩
          exact ⟨j, by omega, h2, fun hmg => h3 ((hm j hc).1 hmg), rfl⟩
        · rintro ⟨j, h1, h2, h3, rfl⟩
          have hji : j ≠ i := fun e => by subst e; exact hn h2
          exact ⟨j, by omega, h2, fun hmg => h3 ((hm j hc).2 hmg), rfl⟩
end
end Go.Drip

/-
Regions that draw their order: the heap when some operations are done.
-/
set_option linter.unusedVariables false
set_option linter.unusedSimpArgs false
namespace Go.Drip
section
variable {t : Tab} {kp : Kp} {kps : FuncId → Kp} {run : Run} {rec : Rec} {base : Nat} {T : Tr AV} {ops : List Oper} {ds : Nat → DS}

/-- The id of a new block. -/
noncomputable def idOf (ds : Nat → DS) (j : Nat) : Nat := (entOf ds j).2.1
/-- How many ids are set aside. -/
noncomputable def cntOf (t : Tab) (ops : List Oper) : Nat := (ranks t (numbered 0 ops) 0).length

theorem Trace.id_spec (h : Trace t kp kps run ops rec base T ds) {j : Nat} (hj : NwX t kp T ops ds j) : ∃ o q, ops[j]? = some o ∧ q = (recOf t ops j o).q ∧ idOf ds j = base + q ∧ (j, q) ∈ ranks t (numbered 0 ops) 0 ∧ q < cntOf t ops ∧ (entOf ds j).1 = j := by
  obtain ⟨o, x, ho, hcl, _, _, he, _⟩ := h.newly hj
  have hn : isNew t o = true := by unfold isNew; rw [hcl]
  have hq := q_spec ho hn
  refine ⟨o, _, ho, rfl, by unfold idOf; rw [he], hq, ?_, by rw [he]⟩
  have := (ranks_lt t hq).2
  rw [Nat.zero_add] at this
  exact this
theorem Trace.id_inj (h : Trace t kp kps run ops rec base T ds) {j j' : Nat} (hj : NwX t kp T ops ds j) (hj' : NwX t kp T ops ds j') (he : idOf ds j = idOf ds j') : j = j' := by
  obtain ⟨o, q, _, _, h1, h2, _⟩ := h.id_spec hj
  obtain ⟨o', q', _, _, h3, h4, _⟩ := h.id_spec hj'
  have : q = q' := by omega
  subst this
  exact ranks_inj t h2 h4
theorem Trace.id_lt (h : Trace t kp kps run ops rec base T ds) {j : Nat} (hj : NwX t kp T ops ds j) : base ≤ idOf ds j ∧ idOf ds j < base + cntOf t ops := by
  obtain ⟨o, q, _, _, h1, _, h2, _⟩ := h.id_spec hj
  omega

open Classical in
/-- The entries of new blocks that are done, and that no call or write below a number has seen. -/
noncomputable def entries (t : Tab) (kp : Kp) (T : Tr AV) (ops : List Oper) (ds : Nat → DS) (k : Nat) (D : Nat → Prop) : List (Nat × Nat × Tr Blk) :=
  ((List.range ops.length).filter fun j => decide (D j ∧ NwX t kp T ops ds j ∧ ¬ Merged t kp T ops ds k j)).map (entOf ds)
theorem mem_entries {k : Nat} {D : Nat → Prop} {e : Nat × Nat × Tr Blk} : e ∈ entries t kp T ops ds k D ↔ ∃ j, D j ∧ NwX t kp T ops ds j ∧ ¬ Merged t kp T ops ds k j ∧ e = entOf ds j := by
  unfold entries
  simp only [List.mem_map, List.mem_filter, List.mem_range, decide_eq_true_eq]
  constructor
  · rintro ⟨j, ⟨_, h1, h2, h3⟩, rfl⟩; exact ⟨j, h1, h2, h3, rfl⟩
  · rintro ⟨j, h1, h2, h3, rfl⟩
    refine ⟨j, ⟨?_, h1, h2, h3⟩, rfl⟩
    obtain ⟨o, ho, _⟩ := h2
    exact (List.getElem?_eq_some_iff.1 ho).1
/-- The heap. -/
noncomputable def heapD (t : Tab) (kp : Kp) (T : Tr AV) (ops : List Oper) (ds : Nat → DS) (k : Nat) (D : Nat → Prop) : AH := putNB (fun _ => true) (entries t kp T ops ds k D) (ds k).C

theorem Trace.apart (h : Trace t kp kps run ops rec base T ds) {k : Nat} {D : Nat → Prop} : Apart (entries t kp T ops ds k D) := by
  intro e he e' he' hid
  obtain ⟨j, _, h2, _, rfl⟩ := mem_entries.1 he
  obtain ⟨j', _, h2', _, rfl⟩ := mem_entries.1 he'
  rw [h.id_inj h2 h2' hid]
theorem Trace.small (h : Trace t kp kps run ops rec base T ds) (hm : base + cntOf t ops ≤ maxH) {k : Nat} {D : Nat → Prop} : ∀ e ∈ entries t kp T ops ds k D, e.2.1 < maxH := by
  intro e he
  obtain ⟨j, _, h2, _, rfl⟩ := mem_entries.1 he
  have := (h.id_lt h2).2
  unfold idOf at this
  omega
theorem Trace.heap_in (h : Trace t kp kps run ops rec base T ds) (hm : base + cntOf t ops ≤ maxH) {k : Nat} {D : Nat → Prop} {j : Nat} (hD : D j) (hn : NwX t kp T ops ds j) (hu : ¬ Merged t kp T ops ds k j) : (heapD t kp T ops ds k D).get (idOf ds j) = Tr.get [] (entOf ds j).2.2 :=
  get_putNB_in (h.small hm) h.apart (mem_entries.2 ⟨j, hD, hn, hu, rfl⟩) rfl
theorem Trace.heap_out (h : Trace t kp kps run ops rec base T ds) (hm : base + cntOf t ops ≤ maxH) {k : Nat} {D : Nat → Prop} {b : Nat} (hb : b < maxH) (ho : ∀ j, D j → NwX t kp T ops ds j → ¬ Merged t kp T ops ds k j → idOf ds j ≠ b) : (heapD t kp T ops ds k D).get b = (ds k).C.get b := by
  refine get_putNB_out hb (h.small hm) fun e he _ => ?_
  obtain ⟨j, h1, h2, h3, rfl⟩ := mem_entries.1 he
  exact ho j h1 h2 h3
theorem heapD_fields (k : Nat) (D : Nat → Prop) : (heapD t kp T ops ds k D).next = (ds k).C.next ∧ (heapD t kp T ops ds k D).prot = (ds k).C.prot := putNB_fields _ _ _
end
end Go.Drip

/-
Regions that draw their order: what is so while some operations are done.
-/
set_option linter.unusedVariables false
set_option linter.unusedSimpArgs false
namespace Go.Drip
section
variable {P : Program} {t : Tab} {kp : Kp} {kps : FuncId → Kp} {run : Run} {rec : Rec} {base : Nat} {T : Tr AV} {ops : List Oper} {ds : Nat → DS}

/-- What is so when the operations D are done, from a start. -/
structure InvD (kps : FuncId → Kp) (t : Tab) (kp : Kp) (T : Tr AV) (ops : List Oper) (ds : Nat → DS) (n : Nat) (w0 : World) (c0 : Cx) (H0 : AH) (df : List Deferred) (D : Nat → Prop) (a : Act) (w : World) (c : Cx) (k : Nat) : Prop where
  le : k ≤ ops.length
  chain : ∀ q, ChX t kp T ops ds q → (D q ↔ q < k)
  stp : Stp kps w0 c0 H0 w c (heapD t kp T ops ds k D)
  size : a.tmps.size = n
  defers : a.defers = df
  tr : TR w c kp T a.tmps
  vals : ∀ j o d, ops[j]? = some o → D j → o.dst = some d → VR w c (valOf ds j) (a.tmps.getD d undef)
  ids : ∀ j q, (j, q) ∈ ranks t (numbered 0 ops) 0 → (c.D (H0.next + q) ↔ D j ∧ NwX t kp T ops ds j)
  nx : H0.next + cntOf t ops ≤ (ds k).C.next
  olds : ∀ x o d, ops[x]? = some o → o.dst = some d → ¬ D x → VR w c (opt (nth (ds 0).E x) .any fun x => x) (a.tmps.getD d undef)

theorem InvD.idD (hT : Trace t kp kps run ops rec base T ds) {n : Nat} {w0 w : World} {c0 c : Cx} {H0 : AH} (hb : base = H0.next) {df : List Deferred} {D : Nat → Prop} {a : Act} {k : Nat} (h : InvD kps t kp T ops ds n w0 c0 H0 df D a w c k) {j : Nat} (hj : NwX t kp T ops ds j) :
    c.D (idOf ds j) ↔ D j := by
  obtain ⟨o, q, _, _, h1, h2, _⟩ := hT.id_spec hj
  rw [h1, hb, h.ids j q h2]
  exact ⟨fun h => h.1, fun h => ⟨h, hj⟩⟩
/-- The values that an operation asks for are there. -/
theorem InvD.env (hT : Trace t kp kps run ops rec base T ds) {n : Nat} {w0 w : World} {c0 c : Cx} {H0 : AH} {df : List Deferred} {D : Nat → Prop} {a : Act} {k : Nat} (h : InvD kps t kp T ops ds n w0 c0 H0 df D a w c k) {i : Nat} {o : Oper} (ho : ops[i]? = some o)
    (hanc : ∀ j, anc ops i j = true → D j) (hok : edgesOk 0 ops = true) (hcl : Closed ops D) (hnd : ¬ D i) : AR w c n kp (envR (recOf t ops i o).us (ds i).E) T a := by
  refine ⟨h.size, h.tr, fun d _ => ?_⟩
  rcases look_envR (us := (recOf t ops i o).us) (E := (ds i).E) (i := d) with h1 | ⟨m, h1, h2⟩
  · rw [h1]; exact .any _
  · have hi := (List.getElem?_eq_some_iff.1 ho).1
    rcases us_spec h1 with ⟨j, oj, hlt, hoj, hb, hd, rfl⟩ | ⟨x, ox, hox, hx, hd, rfl⟩
    · rw [h2, nth_eq, (hT.E i (by omega)).2.2.1 j hlt]
      exact h.vals j oj d hoj (hanc j hb) hd
    · rw [h2, nth_eq, (hT.E i (by omega)).1 x, ← nth_eq]
      refine h.olds x ox d hox hd fun hDx => ?_
      rcases hx with rfl | hx
      · exact hnd hDx
      · exact hnd (closed_anc hok hcl hox (fun e he hb => hcl x ox hox hDx e he hb) hx)
end
end Go.Drip

/-
Regions that draw their order: steps that leave the heap.
-/
set_option linter.unusedVariables false
set_option linter.unusedSimpArgs false
namespace Go.Drip
section
variable {P : Program} {t : Tab} {kp : Kp} {kps : FuncId → Kp} {run : Run} {rec : Rec} {base : Nat} {T : Tr AV} {ops : List Oper} {ds : Nat → DS}

theorem heapD_congr {k : Nat} {D D' : Nat → Prop} (h : ∀ j, NwX t kp T ops ds j → (D j ↔ D' j)) : heapD t kp T ops ds k D = heapD t kp T ops ds k D' := by
  unfold heapD entries
  congr 2
  refine List.filter_congr fun j _ => ?_
  rw [decide_eq_decide]
  exact ⟨fun ⟨h1, h2, h3⟩ => ⟨(h j h2).1 h1, h2, h3⟩, fun ⟨h1, h2, h3⟩ => ⟨(h j h2).2 h1, h2, h3⟩⟩

/-- The destinations are all different, and no destination is kept. -/
structure Dsts (kp : Kp) (n : Nat) (ops : List Oper) : Prop where
  one : ∀ (i j : Nat) (oi oj : Oper) (d : Tmp), ops[i]? = some oi → ops[j]? = some oj → oi.dst = some d → oj.dst = some d → i = j
  out : ∀ (i : Nat) (o : Oper) (d : Tmp), ops[i]? = some o → o.dst = some d → posIn kp.l d = none ∧ d < n

/-- What stays where a value is put elsewhere. -/
theorem Dsts.put {n : Nat} (hds : Dsts kp n ops) {a : Act} (hs : a.tmps.size = n) {i x : Nat} {o ox : Oper} {d : Tmp} (ho : ops[i]? = some o) (hx : ops[x]? = some ox) (hd : ox.dst = some d) (hxi : x ≠ i) (u : Value) : (a.put o.dst u).tmps.getD d undef = a.tmps.getD d undef := by
  cases hdi : o.dst with
  | none => rfl
  | some d' =>
    obtain ⟨_, h2⟩ := hds.out i o d' ho hdi
    show (a.tmps.setIfInBounds d' u).getD d undef = _
    rw [getD_set u (by rw [hs]; exact h2), if_neg fun e => ?_]
    subst e
    exact hxi (hds.one x i ox o d hx ho hd hdi)
/-- A value is put. -/
theorem InvD.put {n : Nat} {w0 w : World} {c0 c : Cx} {H0 : AH} {df : List Deferred} {D D' : Nat → Prop} {a : Act} {k : Nat} (h : InvD kps t kp T ops ds n w0 c0 H0 df D a w c k) (hds : Dsts kp n ops) {i : Nat} {o : Oper} (ho : ops[i]? = some o)
    (hD : ∀ j, D' j ↔ D j ∨ j = i) (hc : ¬ ChX t kp T ops ds i) (hn : ¬ NwX t kp T ops ds i) {v : Value} (hv : VR w c (valOf ds i) v) : InvD kps t kp T ops ds n w0 c0 H0 df D' (a.put o.dst v) w c k := by
  have hsame : ∀ j, NwX t kp T ops ds j → (D j ↔ D' j) := fun j hj => by
    rw [hD]
    exact ⟨.inl, fun h => h.resolve_right fun e => by subst e; exact hn hj⟩
  refine ⟨h.le, fun q hq => ?_, ?_, ?_, (put_defers _ _ _).trans h.defers, ?_, fun j oj d hj hDj hd => ?_, fun j q hj => (h.ids j q hj).trans ⟨fun h1 => ⟨(hsame j h1.2).1 h1.1, h1.2⟩, fun h1 => ⟨(hsame j h1.2).2 h1.1, h1.2⟩⟩, h.nx, fun x ox d hx hd hnx => ?_⟩
  · rw [hD]
    exact ⟨fun h1 => (h.chain q hq).1 (h1.resolve_right fun e => by subst e; exact hc hq), fun h1 => .inl ((h.chain q hq).2 h1)⟩
  · rw [← heapD_congr hsame]; exact h.stp
  · cases hd : o.dst with
    | none => exact h.size
    | some d => simp [Act.put, h.size]
  · cases hd : o.dst with
    | none => exact h.tr
    | some d =>
      obtain ⟨h1, h2⟩ := hds.out i o d ho hd
      exact h.tr.other (by rw [h.size]; exact h2) h1
  · cases hdi : o.dst with
    | none =>
      show VR w c _ (a.tmps.getD d undef)
      rcases (hD j).1 hDj with h1 | rfl
      · exact h.vals j oj d hj h1 hd
      · rw [ho] at hj; injection hj with hj; subst hj; rw [hdi] at hd; cases hd
    | some d' =>
      obtain ⟨_, h2⟩ := hds.out i o d' ho hdi
      show VR w c _ ((a.tmps.setIfInBounds d' v).getD d undef)
      rw [getD_set v (by rw [h.size]; exact h2)]
      by_cases e : d = d'
      · subst e
        rw [if_pos rfl]
        have : i = j := hds.one i j o oj d ho hj hdi hd
        subst this; exact hv
      · rw [if_neg e]
        rcases (hD j).1 hDj with h1 | rfl
        · exact h.vals j oj d hj h1 hd
        · rw [ho] at hj; injection hj with hj; subst hj; rw [hdi] at hd; injection hd with hd; exact absurd hd.symm e
  · rw [hds.put h.size ho hx hd fun e => hnx ((hD x).2 (.inr e))]
    exact h.olds x ox d hx hd fun hDx => hnx ((hD x).2 (.inl hDx))
end
end Go.Drip

/-
Heaps that hold the same.
-/
set_option linter.unusedVariables false
set_option linter.unusedSimpArgs false
namespace Go.Drip
section
variable {kps : FuncId → Kp} {w0 w : World} {c0 c : Cx} {H0 H H' : AH}
theorem HR.congr (hh : HR kps w c H) (hn : H'.next = H.next) (hp : H'.prot = H.prot) (hg : ∀ b, b < maxH → H'.get b = H.get b) : HR kps w c H' :=
  hh.sub hn (by rw [hp]; exact hh.pr) fun b x hb hx => by
    have h1 := hh.N b hb
    have h2 := hh.max
    rw [← hg b (by omega)]; exact hx
theorem Stp.congr (h : Stp kps w0 c0 H0 w c H) (hn : H'.next = H.next) (hp : H'.prot = H.prot) (hm : H0.prot ≤ maxH) (hg : ∀ b, b < maxH → H'.get b = H.get b) : Stp kps w0 c0 H0 w c H' := by
  have hh := h.hr
  refine ⟨h.same, h.ext, hh.congr hn hp hg, h.frame, fun b x hb hx => ?_, hp.trans h.prot, h.ownS, h.newD, by rw [hn]; exact h.next, fun b hb => ?_⟩
  · have h1 := hh.N b hb
    have h2 := hh.max
    exact h.own b x hb (by rw [← hg b (by omega)]; exact hx)
  · rw [hg b (by omega)]; exact h.kept b hb
end
end Go.Drip

/-
Regions that draw their order: a new block.
-/
set_option linter.unusedVariables false
set_option linter.unusedSimpArgs false
namespace Go.Drip
section
variable {P : Program} {t : Tab} {kp : Kp} {kps : FuncId → Kp} {run : Run} {rec : Rec} {T : Tr AV} {ops : List Oper} {ds : Nat → DS}

theorem InvD.newly (ht : t.Ok P) {n : Nat} {w0 w : World} {c0 c : Cx} {H0 : AH} (hT : Trace t kp kps run ops rec H0.next T ds) (hok : edgesOk 0 ops = true) (hm : H0.next + cntOf t ops ≤ maxH) (hp0 : H0.prot ≤ H0.next)
    {df : List Deferred} {D D' : Nat → Prop} {a : Act} {k : Nat} (h : InvD kps t kp T ops ds n w0 c0 H0 df D a w c k) (hds : Dsts kp n ops) (hcl : Closed ops D) {i : Nat} {o : Oper} (ho : ops[i]? = some o) (hanc : ∀ j, anc ops i j = true → D j) (hnd : ¬ D i)
    (hD : ∀ j, D' j ↔ D j ∨ j = i) (hn : NwX t kp T ops ds i) : ∃ v w' c', (execOp a.eval o).run P w = .ok (.value v) w' ∧ InvD kps t kp T ops ds n w0 c0 H0 df D' (a.put o.dst v) w' c' k := by
  obtain ⟨o', x, ho', hc, hx, _, he, _, hval⟩ := hT.newly hn
  rw [ho] at ho'; injection ho' with ho'; subst ho'
  have hA := h.env hT ho hanc hok hcl hnd
  have hst := h.stp
  have hh := hst.hr
  have hid : idOf ds i = H0.next + (recOf t ops i o).q := by unfold idOf; rw [he]
  have hlt := hT.id_lt hn
  have hnx : (heapD t kp T ops ds k D).next = (ds k).C.next := (heapD_fields k D).1
  have hfree : Free c (heapD t kp T ops ds k D) (idOf ds i) (heapD t kp T ops ds k D).next := by
    refine ⟨fun hc => hnd ((h.idD hT rfl hn).1 hc), ?_, Nat.le_refl _, ?_, hh.max⟩
    · rw [hst.prot]; omega
    · rw [hnx]; have := h.nx; omega
  obtain ⟨v, w', c', hrun, hv, hlay⟩ := opNew_sound ht hh hA hfree hx
  refine ⟨v, w', c', hrun, ?_⟩
  have hS : ∀ j, c.S j → w'.heap[j]? = w.heap[j]? := fun j hj => hlay.old j (hh.S j hj)
  have hum : ∀ j, ¬ D j → ¬ Merged t kp T ops ds k j := fun j hj ⟨q, h1, h2, h3⟩ => by
    have hDq := (h.chain q h2).2 h1
    obtain ⟨oq, hoq, _⟩ := h2
    exact hj (closed_anc hok hcl hoq (fun e he hb => hcl q oq hoq hDq e he hb) h3)
  have hstp := hlay.stp hst (by omega) hfree
  have hds1 := hds.out i o
  refine ⟨h.le, fun q hq => ?_, hstp.congr ?_ ?_ (by omega) fun b hb => ?_, ?_, (put_defers _ _ _).trans h.defers, ?_, fun j oj d hj hDj hd => ?_, fun j q hj => ?_, h.nx, fun x ox d hx hd hnx => ?_⟩
  · rw [hD]
    exact ⟨fun h1 => (h.chain q hq).1 (h1.resolve_right fun e => by subst e; exact not_both hq hn), fun h1 => .inl ((h.chain q hq).2 h1)⟩
  · rw [(heapD_fields k D').1, ← (heapD_fields k D).1]
  · rw [(heapD_fields k D').2, ← (heapD_fields k D).2]
  · by_cases hbi : b = idOf ds i
    · subst hbi
      rw [hT.heap_in hm ((hD i).2 (.inr rfl)) hn (hum i hnd), he]
      exact (get_put_same x.1 (pathH (idOf ds i)) (heapD t kp T ops ds k D).tr).symm
    · have e1 : (AH.mk (heapD t kp T ops ds k D).next (heapD t kp T ops ds k D).prot ((heapD t kp T ops ds k D).upd (idOf ds i) x.1).tr).get b = (heapD t kp T ops ds k D).get b := AH.get_upd_ne _ _ (by omega) hb (Ne.symm hbi)
      rw [e1]
      by_cases hex : ∃ j, D j ∧ NwX t kp T ops ds j ∧ ¬ Merged t kp T ops ds k j ∧ idOf ds j = b
      · obtain ⟨j, h1, h2, h3, rfl⟩ := hex
        rw [hT.heap_in hm ((hD j).2 (.inl h1)) h2 h3, hT.heap_in hm h1 h2 h3]
      · rw [hT.heap_out hm hb fun j h1 h2 h3 h4 => hex ⟨j, h1, h2, h3, h4⟩, hT.heap_out hm hb fun j h1 h2 h3 h4 => ?_]
        rcases (hD j).1 h1 with h5 | rfl
        · exact hex ⟨j, h5, h2, h3, h4⟩
        · exact hbi h4.symm
  · cases hd : o.dst with
    | none => exact h.size
    | some d => simp [Act.put, h.size]
  · cases hd : o.dst with
    | none => exact h.tr.mono hlay.ext hS
    | some d =>
      obtain ⟨h1, h2⟩ := hds1 d ho hd
      exact (h.tr.mono hlay.ext hS).other (by rw [h.size]; exact h2) h1
  · have hvi : VR w' c' (valOf ds i) v := by rw [hval, ← hid]; exact hv
    cases hdi : o.dst with
    | none =>
      show VR w' c' _ (a.tmps.getD d undef)
      rcases (hD j).1 hDj with h1 | rfl
      · exact (h.vals j oj d hj h1 hd).mono hlay.ext hS
      · rw [ho] at hj; injection hj with hj; subst hj; rw [hdi] at hd; cases hd
    | some d' =>
      obtain ⟨_, h2⟩ := hds1 d' ho hdi
      show VR w' c' _ ((a.tmps.setIfInBounds d' v).getD d undef)
      rw [getD_set v (by rw [h.size]; exact h2)]
      by_cases e : d = d'
      · subst e
        rw [if_pos rfl]
        have : i = j := hds.one i j o oj d ho hj hdi hd
        subst this; exact hvi
      · rw [if_neg e]
        rcases (hD j).1 hDj with h1 | rfl
        · exact (h.vals j oj d hj h1 hd).mono hlay.ext hS
        · rw [ho] at hj; injection hj with hj; subst hj; rw [hdi] at hd; injection hd with hd; exact absurd hd.symm e
  · rw [hD]
    constructor
    · intro hcd
      rcases hlay.ids _ hcd with h1 | h1
      · obtain ⟨h2, h3⟩ := (h.ids j q hj).1 h1
        exact ⟨.inl h2, h3⟩
      · obtain ⟨o', q', _, _, h2, h3, _⟩ := hT.id_spec hn
        have : q = q' := by omega
        subst this
        have := ranks_inj t hj h3
        subst this
        exact ⟨.inr rfl, hn⟩
    · rintro ⟨h1 | rfl, h2⟩
      · exact hlay.ext.D _ ((h.ids j q hj).2 ⟨h1, h2⟩)
      · obtain ⟨o', q', _, _, h3, h4, _⟩ := hT.id_spec hn
        have hqq : q = q' := ranks_fun t hj h4
        subst hqq
        rw [← h3]
        exact hlay.mem
  · rw [hds.put h.size ho hx hd fun e => hnx ((hD x).2 (.inr e))]
    exact (h.olds x ox d hx hd fun hDx => hnx ((hD x).2 (.inl hDx))).mono hlay.ext hS
end
end Go.Drip

/-
Regions that draw their order: what a read sees.
-/
set_option linter.unusedVariables false
set_option linter.unusedSimpArgs false
namespace Go.Drip
section
variable {P : Program} {w : World} {c : Cx} {n : Nat} {R : Rl} {a : Act} {t : Tab} {kp : Kp} {kps : FuncId → Kp} {run : Run} {rec : Rec} {T : Tr AV} {ops : List Oper} {ds : Nat → DS}

theorem touchV_use {x : AV} {v : Value} {b : Nat} (hv : VR w c x v) (h : touchV x = some b) : c.D b := by
  rcases onX_cases x with ⟨k, m, rfl⟩ | ⟨u, rfl⟩ | ⟨_, _, _, rfl⟩ | ⟨_, _, _, _, _, rfl⟩ | ⟨cs, rfl⟩ | ⟨u, rfl⟩
  · cases h
  · cases h
  · injection h with h; subst h; cases hv; assumption
  · injection h with h; subst h; cases hv <;> assumption
  · cases h
  · cases u with
    | mp b' => injection h with h; subst h; cases hv; assumption
    | _ => cases h
/-- What an operation touches is in use. -/
theorem touch_use (hA : AR w c n kp R T a) {o : Op} {b : Nat} (h : (touchOp kp o).f R T = some b) : c.D b := by
  unfold touchOp at h
  split at h
  · exact touchV_use (opd_sound hA _) h
  · cases h
end
end Go.Drip

