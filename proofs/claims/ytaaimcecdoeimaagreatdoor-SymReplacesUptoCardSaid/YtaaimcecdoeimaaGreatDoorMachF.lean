/-
  Regions that draw their order: what the abstract machine does in its one order, they do in whatever order they draw.
-/
import Derived.Test.YtaaimcecdoeimaaGreatDoorMachE
namespace Go.Abs

mutual
theorem V.beq_eq : ∀ {a b : V}, V.beq a b = true → a = b
  | .bad, b, h => by cases b <;> simp [V.beq] at h ⊢
  | .bool _, b, h => by cases b <;> simp [V.beq] at h ⊢; exact h
  | .int _ _, b, h => by cases b <;> simp [V.beq] at h ⊢; exact h
  | .str _, b, h => by cases b <;> simp [V.beq] at h ⊢; exact h
  | .nilp, b, h => by cases b <;> simp [V.beq] at h ⊢
  | .ptr _ _, b, h => by cases b <;> simp [V.beq] at h ⊢; exact h
  | .nils, b, h => by cases b <;> simp [V.beq] at h ⊢
  | .sl _ _ _ _, b, h => by cases b <;> simp [V.beq] at h ⊢; exact ⟨h.1.1.1, h.1.1.2, h.1.2, h.2⟩
  | .nilm, b, h => by cases b <;> simp [V.beq] at h ⊢
  | .map _, b, h => by cases b <;> simp [V.beq] at h ⊢; exact h
  | .nilf, b, h => by cases b <;> simp [V.beq] at h ⊢
  | .fn _ a c, b, h => by
    cases b <;> simp [V.beq] at h ⊢
    exact ⟨h.1.1, V.beqs_eq h.1.2, V.beqs_eq h.2⟩
  | .nili, b, h => by cases b <;> simp [V.beq] at h ⊢
  | .iface _ _, b, h => by
    cases b <;> simp [V.beq] at h ⊢
    exact ⟨h.1, V.beq_eq h.2⟩
  | .agg _, b, h => by
    cases b <;> simp [V.beq] at h ⊢
    exact V.beqs_eq h
  | .tup _, b, h => by
    cases b <;> simp [V.beq] at h ⊢
    exact V.beqs_eq h
theorem V.beqs_eq : ∀ {a b : List V}, V.beqs a b = true → a = b
  | [], b, h => by cases b <;> simp [V.beqs] at h ⊢
  | x :: l, b, h => by
    cases b with
    | nil => simp [V.beqs] at h
    | cons y r =>
      simp [V.beqs] at h
      rw [V.beq_eq h.1, V.beqs_eq h.2]
end

abbrev Item := Nat × AOper

structure Done where
  it : Item
  loc : List V
  tl : List (Nat × V)
  v : V

def envs (init : A → V) (D : List Done) (x : A) : V :=
  match D.find? (fun d => d.it.2.d.hits x) with
  | some d => d.v
  | none => init x

def cur (init : A → V) (S : Nat → Bool) (D : List Done) (x : A) : V :=
  match D.find? (fun d => d.it.2.d.hits x) with
  | some d => if S d.it.1 then d.v else init x
  | none => init x

section
variable {P : Program} {lm : List Nat} {nt : Nat}

def ItemOK (P : Program) (lm : List Nat) (nt : Nat) (ops : Array Oper) (x : Item) : Prop :=
  ∃ c, ops[x.1]? = some c ∧ trOp P lm c.op = some x.2.op ∧ trGuard P lm ops c = some x.2.grd ∧ c.dst.getD 0 < nt ∧ x.2.d = trD lm c.dst

/-! ### the list's order -/
def Pair (a b : Item) : Prop :=
  a.1 ≠ b.1 ∧ a.2.bf.testBit b.1 = false ∧ (∀ x, a.2.d.hits x = true → b.2.d.hits x = false) ∧
  (b.2.bf.testBit a.1 = true ∨ isEff a.2.op = false ∧ (∀ x ∈ b.2.uses, a.2.d.hits x = false) ∧ (∀ x ∈ a.2.uses, b.2.d.hits x = false))

theorem pairOK_spec {a b : Item} (h : pairOK a b = true) : Pair a b := by
  simp only [pairOK, Bool.and_eq_true, bne_iff_ne, ne_eq, Bool.not_eq_true', Bool.or_eq_true, List.any_eq_false, Bool.not_eq_true] at h
  obtain ⟨⟨⟨h1, h2⟩, h3⟩, h4⟩ := h
  refine ⟨h1, h2, ?_, ?_⟩
  · intro x hx
    cases ha : a.2.d <;> cases hb : b.2.d <;> rw [ha] at hx h3 <;> rw [hb] at h3 <;> cases x <;> simp [D.hits] at hx ⊢
    · subst hx; simp at h3; exact fun e => h3 e.symm
    · subst hx; simp at h3; exact fun e => h3 e.symm
  · rcases h4 with h4 | h4
    · exact .inl h4
    · exact .inr ⟨h4.1.1, h4.1.2, h4.2⟩

theorem pairsOK_spec : ∀ {L : List Item}, pairsOK L = true → L.Pairwise Pair
  | [], _ => .nil
  | a :: l, h => by
    simp only [pairsOK, Bool.and_eq_true, List.all_eq_true] at h
    exact .cons (fun b hb => pairOK_spec (h.1 b hb)) (pairsOK_spec h.2)

theorem Pair.of_split {L A B : List Item} {x : Item} (h : L.Pairwise Pair) (e : L = A ++ x :: B) : (∀ a ∈ A, Pair a x) ∧ (∀ b ∈ B, Pair x b) := by
  subst e
  rw [List.pairwise_append] at h
  exact ⟨fun a ha => h.2.2 a ha x (by simp), fun b hb => (List.pairwise_cons.1 h.2.1).1 b hb⟩

theorem edgesBack_spec {ops : Array Oper} : ∀ {L : List Item} {seen : List Nat}, edgesBack ops L seen = true → ∀ A x B, L = A ++ x :: B → ∃ c, ops[x.1]? = some c ∧ ∀ e ∈ c.after, Region.binds .any e = true → e.on ∈ seen ∨ ∃ a ∈ A, a.1 = e.on
  | [], _, _, A, x, B, e => by simp at e
  | o :: r, seen, h, A, x, B, e => by
    simp only [edgesBack, Bool.and_eq_true] at h
    obtain ⟨h1, h2⟩ := h
    cases A with
    | nil =>
      simp only [List.nil_append, List.cons.injEq] at e
      obtain ⟨rfl, rfl⟩ := e
      split at h1
      · rename_i c hc
        refine ⟨c, hc, fun ed he hb => .inl ?_⟩
        rw [← Array.all_toList, List.all_eq_true] at h1
        have := h1 ed (by simpa using he)
        simp only [hb, Bool.not_true, Bool.false_or] at this
        simpa using this
      · cases h1
    | cons a A =>
      simp only [List.cons_append, List.cons.injEq] at e
      obtain ⟨rfl, rfl⟩ := e
      obtain ⟨c, hc, h3⟩ := edgesBack_spec h2 A x B rfl
      refine ⟨c, hc, fun ed he hb => ?_⟩
      rcases h3 ed he hb with h4 | ⟨a, ha, h4⟩
      · rcases List.mem_cons.1 h4 with h5 | h5
        · exact .inr ⟨o, by simp, h5.symm⟩
        · exact .inl h5
      · exact .inr ⟨a, by simp [ha], h4⟩

/-! ### environments -/
theorem find_split {D : List Done} {x : A} {q : Done} (h : D.find? (fun d => d.it.2.d.hits x) = some q) : q ∈ D ∧ q.it.2.d.hits x = true :=
  ⟨List.mem_of_find?_eq_some h, by simpa using List.find?_some h⟩

theorem find_miss {D : List Done} {x : A} (h : D.find? (fun d => d.it.2.d.hits x) = none) : ∀ d ∈ D, d.it.2.d.hits x = false := by
  intro d hd
  simpa using List.find?_eq_none.1 h d hd

/-- what an operation that is due reads -/
theorem envs_cur {init : A → V} {S : Nat → Bool} {D1 D2 : List Done} {x : Item} (h1 : ∀ d ∈ D1, Pair d.it x) (h2 : ∀ d ∈ D2, d.it = x ∨ Pair x d.it) (hS : S x.1 = false)
    (hbf : ∀ d ∈ D1, x.2.bf.testBit d.it.1 = true → S d.it.1 = true) (hcl : ∀ d ∈ D2, S d.it.1 = true → d.it.2.bf.testBit x.1 = true → S x.1 = true) {a : A} (ha : a ∈ x.2.uses) :
    envs init D1 a = cur init S (D1 ++ D2) a := by
  unfold envs cur
  rw [List.find?_append]
  cases hq : D1.find? (fun d => d.it.2.d.hits a) with
  | some q =>
    obtain ⟨hq1, hq2⟩ := find_split hq
    obtain ⟨_, _, _, hp⟩ := h1 q hq1
    simp only [Option.some_or]
    rcases hp with hp | ⟨_, hp, _⟩
    · rw [if_pos (hbf q hq1 hp)]
    · rw [hp a ha] at hq2; cases hq2
  | none =>
    simp only [Option.none_or]
    cases hr : D2.find? (fun d => d.it.2.d.hits a) with
    | none => rfl
    | some q =>
      obtain ⟨hq1, hq2⟩ := find_split hr
      have : S q.it.1 = false := by
        rcases h2 q hq1 with e | ⟨_, _, _, hp⟩
        · rw [e]; exact hS
        · rcases hp with hp | ⟨_, _, hp⟩
          · cases hs : S q.it.1 with
            | false => rfl
            | true => rw [hcl q hq1 hs hp] at hS; cases hS
          · rw [hp a ha] at hq2; cases hq2
      simp only [this, Bool.false_eq_true, if_false]

/-- an operation has been carried out -/
theorem cur_set {init : A → V} {S S' : Nat → Bool} {D : List Done} {d : Done} (hD : (D.map (·.it)).Pairwise Pair) (hd : d ∈ D) (hS : ∀ i, S' i = (S i || i == d.it.1)) (x : A) :
    cur init S' D x = if d.it.2.d.hits x then d.v else cur init S D x := by
  unfold cur
  cases hq : D.find? (fun d => d.it.2.d.hits x) with
  | none =>
    have := find_miss hq d hd
    simp [this]
  | some q =>
    obtain ⟨hq1, hq2⟩ := find_split hq
    obtain ⟨D1, D2, rfl⟩ := List.append_of_mem hd
    simp only [List.map_append, List.map_cons] at hD
    obtain ⟨p1, p2⟩ := Pair.of_split hD rfl
    rcases List.mem_append.1 hq1 with h | h
    · have hp := p1 q.it (List.mem_map_of_mem h)
      rw [hp.2.2.1 x hq2]
      simp only [hS, Bool.false_eq_true, if_false]
      have : (q.it.1 == d.it.1) = false := by simpa using hp.1
      simp [this]
    · rcases List.mem_cons.1 h with rfl | h
      · rw [if_pos hq2]; simp [hS]
      · have hp := p2 q.it (List.mem_map_of_mem h)
        have hdx : d.it.2.d.hits x = false := by
          cases hdx : d.it.2.d.hits x with
          | false => rfl
          | true => rw [hp.2.2.1 x hdx] at hq2; cases hq2
        rw [hdx]
        simp only [hS, Bool.false_eq_true, if_false]
        have : (q.it.1 == d.it.1) = false := by simpa using fun e => hp.1 (Eq.symm e)
        simp [this]

theorem envs_snoc {init : A → V} {D : List Done} {d : Done} (hp : ∀ q ∈ D, Pair q.it d.it) (x : A) : envs init (D ++ [d]) x = if d.it.2.d.hits x then d.v else envs init D x := by
  unfold envs
  rw [List.find?_append]
  cases hq : D.find? (fun d => d.it.2.d.hits x) with
  | some q =>
    obtain ⟨hq1, hq2⟩ := find_split hq
    rw [(hp q hq1).2.2.1 x hq2]
    simp
  | none =>
    cases hd : d.it.2.d.hits x <;> simp [hd]

theorem cur_snoc {init : A → V} {S : Nat → Bool} {D : List Done} {d : Done} (hS : S d.it.1 = false) (x : A) : cur init S (D ++ [d]) x = cur init S D x := by
  unfold cur
  rw [List.find?_append]
  cases hq : D.find? (fun d => d.it.2.d.hits x) with
  | some q => simp
  | none =>
    cases hd : d.it.2.d.hits x <;> simp [hd, hS]

/-! ### blocks that are to come -/
def gid : V → Nat
  | .ptr b _ | .sl b _ _ _ | .map b => b
  | _ => 0

theorem allocOf_gid {op : AOp} {e : A → V} {f : Nat → V} {o : O} (h : allocOf op e = some (f, o)) (k : Nat) : gid (f k) = k := by
  cases op <;> simp only [allocOf, reduceCtorEq] at h
  · cases h; rfl
  · obtain ⟨p, _, h⟩ := omap h; cases h; rfl
  · split at h
    · obtain ⟨p, _, h⟩ := omap h; cases h; rfl
    · cases h
  · split at h
    · cases h; rfl
    · split at h
      · cases h; rfl
      · cases h
  · split at h
    · split at h
      · cases h; rfl
      · cases h
    · cases h

theorem Sim.ghost {m : Mp} {g : G} {nx : Nat} {w : World} (s : Sim P m g nx w) (o : O) : Sim P m (upd g nx (some o)) (nx + 1) w where
  dom b x e := ⟨Nat.lt_succ_of_lt (s.dom b x e).1, (s.dom b x e).2⟩
  obj b x o' e k l := by
    have := (s.dom b x e).1
    rw [upd_ne _ _ _ (by omega)] at k
    exact s.obj b x o' e k l
  inj b b' x x' e e' l l' q := by
    have h1 := (s.dom b x e).1
    have h2 := (s.dom b' x' e').1
    unfold live at l l'
    rw [upd_ne _ _ _ (by omega)] at l l'
    exact s.inj b b' x x' e e' l l' q
  glob := s.glob
  top b hb l := by
    unfold live at l; rw [upd_ne _ _ _ (by omega)] at l
    exact s.top b (by omega) l

theorem Ex.ghosts {m : Mp} {g : G} {nx : Nat} {w : World} (s : Sim P m g nx w) (o : O) : Ex m g nx w m (upd g nx (some o)) (nx + 1) w where
  next := by omega
  size := Nat.le_refl _
  old _ _ := rfl
  new b x hb e := by have := (s.dom b x e).1; omega
  keep _ _ _ := rfl
  ghost b hb _ := upd_ne _ _ _ (by omega)
  lv b hb l := by unfold live at l ⊢; rwa [upd_ne _ _ _ (by omega)] at l
  ro b y c hb _ _ hg _ := ⟨by rw [upd_ne _ _ _ (by omega)]; exact hg, rfl⟩
  rest := ⟨rfl, rfl, rfl⟩

theorem Mle.fill {m : Mp} {k : Nat} {x : MB} (hk : m k = none) : Mle m (Go.Abs.upd m k (some x)) := by
  intro b y e
  by_cases hb : b = k
  · subst hb; rw [hk] at e; cases e
  · rw [upd_ne _ _ _ hb]; exact e

theorem Sim.fill {m : Mp} {g : G} {nx : Nat} {w w1 : World} (s : Sim P m g nx w) {k : Nat} {x : MB} {o : O} (hk : m k = none) (hkn : k < nx) (hg : g k = some o) (hn : NewAt P m w w1 x o) : Sim P (upd m k (some x)) g nx w1 := by
  obtain ⟨co, hw, _, hx, hor⟩ := hn
  refine ⟨fun b y e => ?_, fun b y o' e hb hl => ?_, fun b b' y y' e e' l l' q => ?_, fun i hi => ?_, s.top⟩
  · rw [hw, Array.size_push]
    by_cases hb : b = k
    · subst hb; rw [upd_same] at e; cases e; exact ⟨hkn, by omega⟩
    · rw [upd_ne _ _ _ hb] at e; have := s.dom b y e; exact ⟨this.1, by omega⟩
  · by_cases hbk : b = k
    · subst hbk
      rw [upd_same] at e; cases e
      rw [hg] at hb; cases hb
      exact ⟨co, by rw [hw, hx]; exact get?_push_size _ _, hor.mono (Mle.fill hk)⟩
    · rw [upd_ne _ _ _ hbk] at e
      obtain ⟨co', h1, h2⟩ := s.obj b y o' e hb hl
      exact ⟨co', by rw [hw, get?_push_lt _ _ (s.dom b y e).2]; exact h1, h2.mono (Mle.fill hk)⟩
  · by_cases hb : b = k
    · by_cases hb' : b' = k
      · rw [hb, hb']
      · subst hb; rw [upd_same] at e; cases e
        rw [upd_ne _ _ _ hb'] at e'
        have := (s.dom b' y' e').2; omega
    · by_cases hb' : b' = k
      · subst hb'; rw [upd_same] at e'; cases e'
        rw [upd_ne _ _ _ hb] at e
        have := (s.dom b y e).2; omega
      · rw [upd_ne _ _ _ hb] at e; rw [upd_ne _ _ _ hb'] at e'
        exact s.inj b b' y y' e e' l l' q
  · obtain ⟨y, e, h1, h2⟩ := s.glob i hi
    exact ⟨y, Mle.fill hk _ _ e, h1, h2⟩

theorem Ex.fill {m0 m : Mp} {g0 g : G} {nx0 nx : Nat} {w0 w w1 : World} (ex : Ex m0 g0 nx0 w0 m g nx w) {k : Nat} {x : MB} {o : O} (hk : nx0 ≤ k) (hn : NewAt P m w w1 x o) : Ex m0 g0 nx0 w0 (upd m k (some x)) g nx w1 := by
  obtain ⟨co, hw, hr, hx, _⟩ := hn
  refine ⟨ex.next, ?_, fun b hb => ?_, fun b y hb e => ?_, fun r hr' hout => ?_, ex.ghost, ex.lv, fun b y c hb hs hm hg hl => ?_, ?_⟩
  · rw [hw, Array.size_push]; have := ex.size; omega
  · rw [upd_ne _ _ _ (by omega)]; exact ex.old b hb
  · by_cases hbk : b = k
    · subst hbk; rw [upd_same] at e; cases e; left; have := ex.size; omega
    · rw [upd_ne _ _ _ hbk] at e; exact ex.new b y hb e
  · rw [hw, get?_push_lt _ _ (Nat.lt_of_lt_of_le hr' ex.size)]; exact ex.keep r hr' hout
  · obtain ⟨h1, h2⟩ := ex.ro b y c hb hs hm hg hl
    exact ⟨h1, by rw [hw, get?_push_lt _ _ (Nat.lt_of_lt_of_le hs ex.size)]; exact h2⟩
  · exact ⟨hr.1.trans ex.rest.1, hr.2.1.trans ex.rest.2.1, hr.2.2.trans ex.rest.2.2⟩

theorem Out.fill {m : Mp} {g : G} {w w1 : World} {k : Nat} {x : MB} {o : O} {r : Nat} (hr : r < w.heap.size) (hn : NewAt P m w w1 x o) (h : Out m g r) : Out (upd m k (some x)) g r := by
  obtain ⟨co, hw, _, hx, _⟩ := hn
  intro b y e hl
  by_cases hbk : b = k
  · subst hbk; rw [upd_same] at e; cases e; omega
  · rw [upd_ne _ _ _ hbk] at e; exact h b y e hl

theorem MarksOK.fill {m : Mp} {g : G} {w w1 : World} {k : Nat} {x : MB} {o : O} {n0 : Nat} {ds : List Deferred} (hn : NewAt P m w w1 x o) (h : MarksOK n0 m g w ds) : MarksOK n0 (upd m k (some x)) g w1 ds := by
  have hsz : w.heap.size ≤ w1.heap.size := by
    obtain ⟨co, hw, _⟩ := hn
    rw [hw, Array.size_push]; omega
  refine ⟨Nat.le_trans h.1 hsz, h.2.1, fun r hr => ?_⟩
  obtain ⟨h0, h1, h2⟩ := h.2.2 r hr
  refine ⟨h0, ?_, h2.fill (lt_of_get h1) hn⟩
  obtain ⟨co, hw, _, hx, _⟩ := hn
  rw [hw, get?_push_lt _ _ (lt_of_get h1)]; exact h1

end
end Go.Abs

namespace Go.Abs
section
variable {P : Program} {lm : List Nat} {nt : Nat}

/-- what does not change while a region runs -/
structure Rg (P : Program) (lm : List Nat) (nt : Nat) where
  ops : Array Oper
  L : List Item
  pairs : L.Pairwise Pair
  item : ∀ x ∈ L, ItemOK P lm nt ops x
  closes : ∀ x ∈ L, ∀ c, ops[x.1]? = some c → ∀ j, j < ops.size → x.2.bf.testBit j = true → ∃ e ∈ c.after, Region.binds .any e = true ∧ (e.on = j ∨ ∃ y ∈ L, y.1 = e.on ∧ y.2.bf.testBit j = true)
  back : edgesBack ops L [] = true
  all : ∀ i, i < ops.size → ∃ x ∈ L, x.1 = i
  lt : ∀ x ∈ L, x.1 < ops.size
  n0 : Nat
  m0 : Mp
  h0 : H
  w0 : World
  st0 : St
  CV : CVT
  cx : Cx
  Q : X → St → Prop

def Rg.init (R : Rg P lm nt) : A → V := evA R.st0.loc []

def gst (d : Done) : St := { loc := d.loc, tl := d.tl, df := [], h := default }

/-- an operation that the abstract machine has carried out and the other one has not -/
def Pend (R : Rg P lm nt) (m : Mp) (h : H) (d : Done) : Prop :=
  (wantedA (gst d) d.it.2.grd = some false ∧ d.v = .tup []) ∨
  (wantedA (gst d) d.it.2.grd = some true ∧ isEff d.it.2.op = false ∧
    (isAlloc d.it.2.op = false → evOp d.it.2.op (evA d.loc d.tl) h = some (d.v, h)) ∧
    (isAlloc d.it.2.op = true → ∃ f o, allocOf d.it.2.op (evA d.loc d.tl) = some (f, o) ∧ d.v = f (gid d.v) ∧ m (gid d.v) = none ∧ h.get (gid d.v) = some o ∧ R.h0.next ≤ gid d.v ∧ gid d.v < h.next))

structure Inv (R : Rg P lm nt) (S : Nat → Bool) (D : List Done) (rest : List Item) (rs : List Rec) (m : Mp) (st : St) (a : Act) (w : World) : Prop where
  split : R.L = D.map (·.it) ++ rest
  env : ∀ x, evA st.loc st.tl x = envs R.init D x
  envD : ∀ A d B, D = A ++ d :: B → ∀ x, evA d.loc d.tl x = envs R.init A x
  cur : EvR P lm m (cur R.init S D) a.eval
  closed : ∀ x ∈ R.L, S x.1 = true → ∀ j, j < R.ops.size → x.2.bf.testBit j = true → S j = true
  sub : ∀ x ∈ rest, S x.1 = false
  pend : ∀ d ∈ D, S d.it.1 = false → Pend R m st.h d
  dist : ∀ d ∈ D, ∀ d' ∈ D, S d.it.1 = false → S d'.it.1 = false → isAlloc d.it.2.op = true → isAlloc d'.it.2.op = true → wantedA (gst d) d.it.2.grd = some true → wantedA (gst d') d'.it.2.grd = some true → d.it.1 ≠ d'.it.1 → gid d.v ≠ gid d'.v
  recs : ∀ d ∈ D, isRead d.it.2.op = true → wantedA (gst d) d.it.2.grd = some true → (⟨d.it.1, d.it.2.op, d.loc, d.tl, d.v⟩ : Rec) ∈ rs
  sim : Sim P m st.h.get st.h.next w
  size : a.tmps.size = nt
  len : st.loc.length = lm.length
  df : DfR m st.df a.defers
  mks : MarksOK R.n0 m st.h.get w a.defers
  ex : Ex R.m0 R.h0.get R.h0.next R.w0 m st.h.get st.h.next w

theorem wanted_gst {st : St} {loc : List V} {tl : List (Nat × V)} (h1 : st.loc = loc) (h2 : st.tl = tl) (g : Option (A × Bool)) : wantedA st g = wantedA { loc := loc, tl := tl, df := [], h := default } g := by
  subst h1; subst h2
  cases g with
  | none => rfl
  | some p => rfl

section steps
variable {R : Rg P lm nt} {x : Item} {S : Nat → Bool} {D : List Done} {rest : List Item} {rs : List Rec} {m : Mp} {st : St} {a : Act} {w : World}

theorem Inv.mem (I : Inv R S D rest rs m st a w) {d : Done} (hd : d ∈ D) : d.it ∈ R.L := by rw [I.split]; exact List.mem_append_left _ (List.mem_map_of_mem hd)

theorem Inv.pairD (I : Inv R S D rest rs m st a w) : (D.map (·.it)).Pairwise Pair := by
  have := R.pairs; rw [I.split] at this; exact (List.pairwise_append.1 this).1

theorem Inv.head (I : Inv R S D (x :: rest) rs m st a w) : (∀ d ∈ D, Pair d.it x) ∧ x ∈ R.L ∧ (∀ y ∈ rest, Pair x y) := by
  obtain ⟨h1, h2⟩ := Pair.of_split R.pairs I.split
  exact ⟨fun d hd => h1 _ (List.mem_map_of_mem hd), by rw [I.split]; simp, h2⟩

/-- what the next operation reads -/
theorem Inv.reads (I : Inv R S D (x :: rest) rs m st a w) (hbf : ∀ j, j < R.ops.size → x.2.bf.testBit j = true → S j = true) {aa : A} (ha : aa ∈ x.2.uses) : evA st.loc st.tl aa = Go.Abs.cur R.init S D aa := by
  rw [I.env]
  obtain ⟨h1, _, _⟩ := I.head
  have := envs_cur (init := R.init) (S := S) (D1 := D) (D2 := []) (x := x) h1 (fun d hd => by simp at hd) (I.sub x (by simp)) (fun d hd hb => hbf _ (R.lt _ (I.mem hd)) hb) (fun d hd => by simp at hd) ha
  simpa using this

/-- what an operation that is put off reads -/
theorem Inv.readsD (I : Inv R S D rest rs m st a w) {d : Done} (hd : d ∈ D) (hS : S d.it.1 = false) (hbf : ∀ j, j < R.ops.size → d.it.2.bf.testBit j = true → S j = true) {aa : A} (ha : aa ∈ d.it.2.uses) :
    evA d.loc d.tl aa = Go.Abs.cur R.init S D aa := by
  obtain ⟨A, B, rfl⟩ := List.append_of_mem hd
  rw [I.envD A d B rfl]
  have hp := I.pairD
  simp only [List.map_append, List.map_cons] at hp
  obtain ⟨h1, h2⟩ := Pair.of_split hp rfl
  refine envs_cur (x := d.it) (fun q hq => h1 _ (List.mem_map_of_mem hq)) (fun q hq => ?_) hS (fun q hq hb => hbf _ (R.lt _ (I.mem (by simp [hq]))) hb) (fun q hq hs hb => ?_) ha
  · rcases List.mem_cons.1 hq with rfl | hq
    · exact .inl rfl
    · exact .inr (h2 _ (List.mem_map_of_mem hq))
  · exact I.closed q.it (I.mem (by simp only [List.mem_append]; exact .inr hq)) hs _ (R.lt _ (I.mem hd)) hb

/-- the abstract machine goes on by an operation that is no effect, or is not wanted -/
theorem Inv.ahead (I : Inv R S D (x :: rest) rs m st a w) {v : V} {h' : H} {rs' : List Rec} (hrs : ∀ r ∈ rs, r ∈ rs')
    (hp : wantedA st x.2.grd = some false ∧ v = .tup [] ∧ h' = st.h ∨ wantedA st x.2.grd = some true ∧ isEff x.2.op = false ∧ evOp x.2.op (evA st.loc st.tl) st.h = some (v, h') ∧ (isRead x.2.op = true → (⟨x.1, x.2.op, st.loc, st.tl, v⟩ : Rec) ∈ rs')) :
    Inv R S (D ++ [⟨x, st.loc, st.tl, v⟩]) rest rs' m ({ st with h := h' }.put x.2.d v) a w := by
  obtain ⟨h1, hx, h2⟩ := I.head
  obtain ⟨c, hc, _, _, _, hd⟩ := R.item x hx
  have hgst : ∀ g, wantedA (gst ⟨x, st.loc, st.tl, v⟩) g = wantedA st g := fun g => (wanted_gst rfl rfl g).symm
  have heap : Sim P m h'.get h'.next w ∧ Ex m st.h.get st.h.next w m h'.get h'.next w ∧ (h' = st.h ∨ ∃ o, h' = st.h.push o) := by
    have r0 : Ex m st.h.get st.h.next w m st.h.get st.h.next w := Ex.refl _ _ _ _ fun b x e => (I.sim.dom b x e).1
    rcases hp with ⟨_, _, rfl⟩ | ⟨_, he, hv, _⟩
    · exact ⟨I.sim, r0, .inl rfl⟩
    · by_cases hal : isAlloc x.2.op = true
      · obtain ⟨f, o, _, _, rfl⟩ := allocOf_ev hal hv
        rw [get_push_upd]
        exact ⟨I.sim.ghost o, Ex.ghosts I.sim o, .inr ⟨o, rfl⟩⟩
      · by_cases hr : isRead x.2.op = true
        · rw [evOp_read hr hv]; exact ⟨I.sim, r0, .inl rfl⟩
        · rw [(evOp_pure he (by simpa using hr) (by simpa using hal) hv).1]; exact ⟨I.sim, r0, .inl rfl⟩
  obtain ⟨hsim, hex, hpush⟩ := heap
  have hSx := I.sub x (by simp)
  have hlenx : ∀ i, x.2.d = .l i → i < st.loc.length := fun i hi => by rw [I.len]; rw [hd] at hi; exact trD_lt hi
  have hget : ∀ b o, b < st.h.next → st.h.get b = some o → h'.get b = some o := by
    intro b o hb hg
    rcases hpush with rfl | ⟨o', rfl⟩
    · exact hg
    · rw [H.get_push, if_neg (by omega)]; exact hg
  have hnext : st.h.next ≤ h'.next := hex.next
  refine ⟨?_, fun y => ?_, fun A d B e y => ?_, ?_, I.closed, fun y hy => I.sub y (by simp [hy]), fun d hdm hs => ?_, ?_, ?_, ?_, I.size, ?_, ?_, ?_, ?_⟩
  · rw [I.split]; simp
  · rw [evA_put (st := { st with h := h' }) hlenx, envs_snoc (fun q hq => h1 q hq)]
    simp only [I.env]
  · rcases List.append_eq_append_iff.1 e with ⟨A', rfl, he⟩ | ⟨B', rfl, he⟩
    · cases A' with
      | nil => simp only [List.nil_append, List.cons.injEq] at he; obtain ⟨rfl, _⟩ := he; simpa using I.env y
      | cons z A' => simp at he
    · cases B' with
      | nil => simp only [List.nil_append, List.cons.injEq] at he; obtain ⟨rfl, _⟩ := he; simpa using I.env y
      | cons z B' =>
        simp only [List.cons_append, List.cons.injEq] at he
        obtain ⟨rfl, _⟩ := he
        exact I.envD A d B' rfl y
  · intro y aa hy
    rw [cur_snoc (by exact hSx)]
    exact I.cur y aa hy
  · rcases List.mem_append.1 hdm with h | h
    · rw [St.put_h]
      rcases I.pend d h hs with hk | ⟨k1, k2, k3, k4⟩
      · exact .inl hk
      · refine .inr ⟨k1, k2, fun hal => ?_, fun hal => ?_⟩
        · rcases hpush with e | ⟨o', e⟩
          · show evOp _ _ h' = some (_, h'); rw [e]; exact k3 hal
          · by_cases hr : isRead d.it.2.op = true
            · rw [e]
              refine evOp_more hr (fun b o' hg hl => ?_) (k3 hal)
              rw [H.get_push, if_neg]
              · exact hg
              · intro hb; subst hb; exact I.sim.top _ (Nat.le_refl _) ⟨o', hg, hl⟩
            · exact (evOp_pure k2 (by simpa using hr) hal (k3 hal)).2 h'
        · obtain ⟨f, o, g1, g2, g3, g4, g5, g6⟩ := k4 hal
          exact ⟨f, o, g1, g2, g3, hget _ _ g6 g4, g5, Nat.lt_of_lt_of_le g6 hnext⟩
    · simp only [List.mem_singleton] at h
      subst h
      rw [St.put_h]
      rcases hp with ⟨hw, hv, rfl⟩ | ⟨hw, he, hv, hrec⟩
      · exact .inl ⟨by rw [hgst]; exact hw, hv⟩
      · refine .inr ⟨by rw [hgst]; exact hw, he, fun hal => ?_, fun hal => ?_⟩
        · by_cases hr : isRead x.2.op = true
          · have := evOp_read hr hv; subst this; exact hv
          · exact (evOp_pure he (by simpa using hr) hal hv).2 h'
        · obtain ⟨f, o, g1, g2, g3⟩ := allocOf_ev hal hv
          have hgid : gid v = st.h.next := by rw [g2]; exact allocOf_gid g1 _
          refine ⟨f, o, g1, by rw [hgid]; exact g2, ?_, ?_, ?_, ?_⟩
          · show m (gid v) = none
            rw [hgid]
            cases hm : m st.h.next with
            | none => rfl
            | some y => have := (I.sim.dom _ _ hm).1; omega
          · show h'.get (gid v) = some o
            rw [hgid, g3, H.get_push, if_pos rfl]
          · show _ ≤ gid v
            rw [hgid]; exact I.ex.next
          · show gid v < h'.next
            rw [hgid, g3]; exact Nat.lt_succ_self _
  · intro d hdm d' hdm' hs hs' ha ha' hw hw' hne
    have key : ∀ q ∈ D, S q.it.1 = false → isAlloc q.it.2.op = true → wantedA (gst q) q.it.2.grd = some true → isAlloc x.2.op = true → wantedA st x.2.grd = some true → gid q.v ≠ gid v := by
      intro q hq hqs hqa hqw hxa hxw
      rcases hp with ⟨hw0, _, _⟩ | ⟨_, _, hv, _⟩
      · rw [hw0] at hxw; cases hxw
      · obtain ⟨f, o, g1, g2, g3⟩ := allocOf_ev hxa hv
        have hgid : gid v = st.h.next := by rw [g2]; exact allocOf_gid g1 _
        rcases I.pend q hq hqs with ⟨k, _⟩ | ⟨_, _, _, k4⟩
        · rw [k] at hqw; cases hqw
        · obtain ⟨_, _, _, _, _, _, _, g6⟩ := k4 hqa
          omega
    rcases List.mem_append.1 hdm with h | h
    · rcases List.mem_append.1 hdm' with h' | h'
      · exact I.dist d h d' h' hs hs' ha ha' hw hw' hne
      · simp only [List.mem_singleton] at h'
        subst h'
        exact key d h hs ha hw ha' (by rw [← hgst]; exact hw')
    · simp only [List.mem_singleton] at h
      subst h
      rcases List.mem_append.1 hdm' with h' | h'
      · exact fun e => key d' h' hs' ha' hw' ha (by rw [← hgst]; exact hw) e.symm
      · simp only [List.mem_singleton] at h'
        subst h'
        exact absurd rfl hne
  · intro d hdm hr hw
    rcases List.mem_append.1 hdm with h | h
    · exact hrs _ (I.recs d h hr hw)
    · simp only [List.mem_singleton] at h
      subst h
      rcases hp with ⟨hw', _, _⟩ | ⟨_, _, _, hrec⟩
      · rw [hgst, hw'] at hw; cases hw
      · exact hrec hr
  · rw [St.put_h]; exact hsim
  · rw [St.put_len]; exact I.len
  · rw [St.put_df]; exact I.df
  · rw [St.put_h]; exact I.mks.ex hex
  · rw [St.put_h]; exact I.ex.trans hex
end steps
end
end Go.Abs

namespace Go.Abs
section
variable {P : Program} {lm : List Nat} {nt : Nat}

theorem allocOf_congr {op : AOp} {e e' : A → V} (hh : ∀ a ∈ op.args, e a = e' a) : allocOf op e = allocOf op e' := by
  cases op <;> try rfl
  case box x => simp only [allocOf]; rw [hh x (by simp [AOp.args])]
  case bslice z sz n ps => simp only [allocOf]; rw [fill_congr hh]
  case mkMap r =>
    cases r with
    | none => rfl
    | some a => simp only [allocOf]; rw [hh a (by simp [AOp.args])]
  case mkSlice z b x y => simp only [allocOf]; rw [hh x (by simp [AOp.args]), hh y (by simp [AOp.args])]

def setS (S : Nat → Bool) (i : Nat) (j : Nat) : Bool := S j || j == i

theorem setS_false {S : Nat → Bool} {i j : Nat} (h : setS S i j = false) : S j = false ∧ j ≠ i := by
  simpa [setS] using h

section steps
variable {R : Rg P lm nt} {x : Item} {S : Nat → Bool} {D : List Done} {rest : List Item} {rs : List Rec} {m : Mp} {st : St} {a : Act} {w : World}

/-- whatever is ready: all that its set names has been carried out -/
theorem Inv.bf (I : Inv R S D rest rs m st a w) (hx : x ∈ R.L) {c : Oper} (hc : R.ops[x.1]? = some c) (hr : ∀ e ∈ c.after, Region.binds .any e = true → S e.on = true) : ∀ j, j < R.ops.size → x.2.bf.testBit j = true → S j = true := by
  intro j hj hb
  obtain ⟨e, he, hbd, h⟩ := R.closes x hx c hc j hj hb
  rcases h with rfl | ⟨y, hy, hye, hyb⟩
  · exact hr e he hbd
  · exact I.closed y hy (by rw [hye]; exact hr e he hbd) j hj hyb

theorem item_unique (R : Rg P lm nt) {x y : Item} (hx : x ∈ R.L) (hy : y ∈ R.L) (h : x.1 = y.1) : x = y := by
  obtain ⟨A, B, e⟩ := List.append_of_mem hx
  obtain ⟨h1, h2⟩ := Pair.of_split R.pairs e
  rw [e] at hy
  rcases List.mem_append.1 hy with k | k
  · exact absurd h.symm (h1 y k).1
  · rcases List.mem_cons.1 k with k | k
    · exact k.symm
    · exact absurd h (h2 y k).1

/-- the carried-out set grows -/
theorem Inv.closed_set (I : Inv R S D rest rs m st a w) (hx : x ∈ R.L) (hbf : ∀ j, j < R.ops.size → x.2.bf.testBit j = true → S j = true) :
    ∀ y ∈ R.L, setS S x.1 y.1 = true → ∀ j, j < R.ops.size → y.2.bf.testBit j = true → setS S x.1 j = true := by
  intro y hy hs j hj hb
  simp only [setS, Bool.or_eq_true, beq_iff_eq] at hs ⊢
  rcases hs with hs | hs
  · exact .inl (I.closed y hy hs j hj hb)
  · rw [item_unique R hy hx hs] at hb
    exact .inl (hbf j hj hb)

/-- an operation that was put off is carried out -/
theorem Inv.late (I : Inv R S D rest rs m st a w) {F : Fence} (hF : WideF F) {d : Done} (hd : d ∈ D) (hS : S d.it.1 = false) {c : Oper} (hc : R.ops[d.it.1]? = some c) (hbf : ∀ j, j < R.ops.size → d.it.2.bf.testBit j = true → S j = true)
    {K : Act → World → Prop} {QQ : Exit → Act → World → Prop} (hK : ∀ m' a' w', Inv R (setS S d.it.1) D rest rs m' st a' w' → K a' w') : wpOpIn F 0 P R.ops QQ d.it.1 K a w := by
  have hdL := I.mem hd
  obtain ⟨c', hc', hop, hg, hdst, hdd⟩ := R.item _ hdL
  rw [hc] at hc'; cases hc'
  have hreads : ∀ aa ∈ d.it.2.uses, evA d.loc d.tl aa = Go.Abs.cur R.init S D aa := fun aa ha => I.readsD hd hS hbf ha
  have hcurset : ∀ y, Go.Abs.cur R.init (setS S d.it.1) D y = if (trD lm c.dst).hits y then d.v else Go.Abs.cur R.init S D y := by
    intro y
    rw [cur_set (S := S) (S' := setS S d.it.1) I.pairD hd (fun i => rfl), hdd]
  have hsubset : ∀ y ∈ rest, setS S d.it.1 y.1 = false := by
    intro y hy
    simp only [setS, I.sub y hy, Bool.false_or, beq_eq_false_iff_ne, ne_eq]
    have := R.pairs
    rw [I.split, List.pairwise_append] at this
    exact fun e => (this.2.2 d.it (List.mem_map_of_mem hd) y hy).1 e.symm
  -- what is to be shown of the new state
  have mk : ∀ (m' : Mp) (cv : Value) (w' : World), VR m' d.v cv → Mle m m' → (∀ q ∈ D, S q.it.1 = false → q.it.1 ≠ d.it.1 → isAlloc q.it.2.op = true → wantedA (gst q) q.it.2.grd = some true → m (gid q.v) = none → gid q.v < st.h.next → m' (gid q.v) = none) → Sim P m' st.h.get st.h.next w' → Ex R.m0 R.h0.get R.h0.next R.w0 m' st.h.get st.h.next w' →
      MarksOK R.n0 m' st.h.get w' a.defers → Inv R (setS S d.it.1) D rest rs m' st (a.put c.dst cv) w' := by
    intro m' cv w' hv hle hnone hsim hex hmks
    refine ⟨I.split, I.env, I.envD, ?_, I.closed_set hdL hbf, hsubset, ?_, ?_, I.recs, hsim, by rw [Act.put_size]; exact I.size, I.len, by rw [Act.put_defers']; exact I.df.mono hle, by rw [Act.put_defers']; exact hmks, hex⟩
    · exact EvR.put (e := Go.Abs.cur R.init S D) (fun y aa hy => (I.cur y aa hy).mono hle) hcurset (by rw [I.size]; exact hdst) hv
    · intro q hq hs
      obtain ⟨hs1, hs2⟩ := setS_false hs
      rcases I.pend q hq hs1 with hk | ⟨k1, k2, k3, k4⟩
      · exact .inl hk
      · refine .inr ⟨k1, k2, k3, fun hal => ?_⟩
        obtain ⟨f, o, g1, g2, g3, g4, g5, g6⟩ := k4 hal
        exact ⟨f, o, g1, g2, hnone q hq hs1 hs2 hal k1 g3 g6, g4, g5, g6⟩
    · intro q hq q' hq' hs hs' ha ha' hw hw' hne
      exact I.dist q hq q' hq' (setS_false hs).1 (setS_false hs').1 ha ha' hw hw' hne
  have hwant : ∀ b, wantedA (gst d) d.it.2.grd = some b → Region.wanted c (yielded R.ops a.tmps) = b := fun b hb =>
    wanted_rel (m := m) hg (e := Go.Abs.cur R.init S D) (tmps := a.tmps) (fun y aa hy _ => by
      have := I.cur y aa hy
      cases y <;> exact this) (st := gst d) (fun aa ha => hreads aa (by
        simp only [AOper.uses, List.mem_append]; exact .inr ha)) hb
  have exr : Ex m st.h.get st.h.next w m st.h.get st.h.next w := Ex.refl _ _ _ _ fun b x e => (I.sim.dom b x e).1
  unfold wpOpIn
  rw [hc]
  simp only []
  rcases I.pend d hd hS with ⟨hw, hv⟩ | ⟨hw, heff, hna, hal⟩
  · rw [hwant _ hw]
    simp only [Bool.false_eq_true, if_false]
    exact ⟨fun f _ => hF.fn f, hK m _ w (mk m undef w (by rw [hv]; exact VR.undef) (Mle.refl m) (fun _ _ _ _ _ _ h _ => h) I.sim I.ex I.mks)⟩
  · rw [hwant _ hw]
    simp only [if_true]
    refine ⟨fun f _ => hF.fn f, ?_⟩
    have hnd : ∀ k, c.op ≠ .defer k := by
      rcases trOp_spec hop with ⟨_, h⟩ | hsp
      · exact h
      · intro k hk
        rcases hsp with ⟨_, _, _, _, ho, _⟩ | ⟨_, _, _, _, _, _, _, _, hop'⟩ | ⟨_, _, ho, _⟩ | ⟨_, _, ho, _⟩
        · rw [hk] at ho; cases ho
        · rw [hop'] at heff; cases heff
        · rw [hk] at ho; cases ho
        · rw [hk] at ho; cases ho
    rw [Oper.semAt_eq _ _ _ hnd]
    have hcongr : ∀ aa ∈ d.it.2.op.args, evA d.loc d.tl aa = Go.Abs.cur R.init S D aa := fun aa ha => hreads aa (by simp only [AOper.uses, List.mem_append]; exact .inl ha)
    by_cases ha : isAlloc d.it.2.op = true
    · obtain ⟨f, o, g1, g2, g3, g4, g5, g6⟩ := hal ha
      have g1' : allocOf d.it.2.op (Go.Abs.cur R.init S D) = some (f, o) := by rw [← allocOf_congr hcongr]; exact g1
      obtain ⟨w1, y, cv, hr, hnew, hsh, hv⟩ := alloc_sound (P := P) (w := w) I.cur hop g1'
      rw [hr]
      refine hK (upd m (gid d.v) (some y)) _ w1 (mk _ cv w1 ?_ (Mle.fill g3) ?_ (I.sim.fill g3 g6 g4 hnew) (I.ex.fill g5 hnew) (I.mks.fill hnew))
      · have := hv (gid d.v) (upd m (gid d.v) (some y)) (upd_same _ _ _)
        rwa [← g2] at this
      · intro q hq hs1 hs2 hal k1 hm _
        rw [upd_ne _ _ _ (I.dist q hq d hd hs1 hS hal ha k1 hw hs2)]; exact hm
    · have ha' : isAlloc d.it.2.op = false := by simpa using ha
      have hev := hna ha'
      rw [evOp_congr hcongr] at hev
      refine (evOp_sound I.sim I.cur hop hev).iff fun m' cv w' h1 h2 h3 => hK m' _ w' (mk m' cv w' h1 (h3.le I.sim) ?_ h2 (I.ex.trans h3) (I.mks.ex h3))
      intro q _ _ _ _ _ hm hk
      rw [h3.old _ hk]; exact hm
end steps
end
end Go.Abs

namespace Go.Abs

theorem forget_len : ∀ (L : List Item) (loc : List V), (forget loc L).length = loc.length
  | [], _ => rfl
  | o :: r, loc => by
    simp only [forget]
    split
    · rw [forget_len r]; simp
    · exact forget_len r loc

theorem forget_bad : ∀ (L : List Item) (loc : List V) (i : Nat), loc.getD i .bad = .bad → (forget loc L).getD i .bad = .bad
  | [], _, _, h => h
  | o :: r, loc, i, h => by
    simp only [forget]
    split
    · rename_i j hj
      apply forget_bad r
      by_cases e : j = i
      · subst e; simp [List.getElem?_set]; split <;> simp
      · simpa [List.getElem?_set_ne e] using h
    · exact forget_bad r loc i h

theorem forget_hit : ∀ (L : List Item) (loc : List V) (i : Nat), (∃ o ∈ L, o.2.d = .l i) → (forget loc L).getD i .bad = .bad
  | [], _, _, ⟨o, h, _⟩ => by simp at h
  | o :: r, loc, i, ⟨q, hq, hd⟩ => by
    simp only [forget]
    rcases List.mem_cons.1 hq with rfl | hq
    · rw [hd]
      apply forget_bad
      simp [List.getElem?_set]; split <;> simp
    · split
      · exact forget_hit r _ i ⟨q, hq, hd⟩
      · exact forget_hit r _ i ⟨q, hq, hd⟩

theorem forget_miss : ∀ (L : List Item) (loc : List V) (i : Nat), (∀ o ∈ L, o.2.d ≠ .l i) → (forget loc L).getD i .bad = loc.getD i .bad
  | [], _, _, _ => rfl
  | o :: r, loc, i, h => by
    simp only [forget]
    split
    · rename_i j hj
      rw [forget_miss r _ i fun q hq => h q (by simp [hq])]
      have : j ≠ i := fun e => h o (by simp) (by rw [hj, e])
      simp [List.getElem?_set_ne this]
    · exact forget_miss r loc i fun q hq => h q (by simp [hq])

section
variable {P : Program} {lm : List Nat} {nt : Nat}
section steps
variable {R : Rg P lm nt} {x : Item} {S : Nat → Bool} {D : List Done} {rest : List Item} {rs : List Rec} {m : Mp} {st : St} {a : Act} {w : World}

theorem envD_snoc {init : A → V} (h1 : ∀ A d B, D = A ++ d :: B → ∀ y, evA d.loc d.tl y = envs init A y) (h2 : ∀ y, evA st.loc st.tl y = envs init D y) {it : Item} {v : V} :
    ∀ A d B, D ++ [⟨it, st.loc, st.tl, v⟩] = A ++ d :: B → ∀ y, evA d.loc d.tl y = envs init A y := by
  intro A d B e y
  rcases List.append_eq_append_iff.1 e with ⟨A', rfl, he⟩ | ⟨B', rfl, he⟩
  · cases A' with
    | nil => simp only [List.nil_append, List.cons.injEq] at he; obtain ⟨rfl, _⟩ := he; simpa using h2 y
    | cons z A' => simp at he
  · cases B' with
    | nil => simp only [List.nil_append, List.cons.injEq] at he; obtain ⟨rfl, _⟩ := he; simpa using h2 y
    | cons z B' =>
      simp only [List.cons_append, List.cons.injEq] at he
      obtain ⟨rfl, _⟩ := he
      exact h1 A d B' rfl y

theorem cur_stay {init : A → V} {y : A} (h : ∀ d ∈ D, d.it.2.d.hits y = false) : Go.Abs.cur init S D y = init y ∧ envs init D y = init y := by
  have : D.find? (fun d => d.it.2.d.hits y) = none := List.find?_eq_none.2 fun d hd => by simp [h d hd]
  simp [Go.Abs.cur, envs, this]

/-- the state in which a region is left by a panic -/
theorem Inv.left (I : Inv R S D rest rs m st a w) : EvR P lm m (evA (forget st.loc R.L) []) a.eval := by
  intro y aa hy
  have hcur := I.cur y aa hy
  cases aa with
  | l i =>
    simp only [evA]
    by_cases h : ∃ o ∈ R.L, o.2.d = .l i
    · rw [forget_hit _ _ _ h]; simp only [VR]
    · have hm : ∀ o ∈ R.L, o.2.d ≠ .l i := fun o ho e => h ⟨o, ho, e⟩
      rw [forget_miss _ _ _ hm]
      have hs : ∀ d ∈ D, d.it.2.d.hits (.l i) = false := by
        intro d hd
        have := hm d.it (I.mem hd)
        cases hdd : d.it.2.d with
        | l j => simp only [Go.Abs.D.hits, beq_eq_false_iff_ne, ne_eq]; exact fun e => this (by rw [hdd, e])
        | t s => rfl
        | n => rfl
      obtain ⟨h1, h2⟩ := cur_stay (S := S) (init := R.init) hs
      have h3 := I.env (.l i)
      simp only [evA] at h3
      rw [h3, h2, ← h1]
      exact hcur
  | t s => simp only [evA, tget, VR]
  | c v =>
    have := (cur_stay (S := S) (init := R.init) (D := D) (y := .c v) fun d _ => by cases d.it.2.d <;> rfl).1
    rw [this] at hcur; exact hcur
  | g n =>
    have := (cur_stay (S := S) (init := R.init) (D := D) (y := .g n) fun d _ => by cases d.it.2.d <;> rfl).1
    rw [this] at hcur; exact hcur
  | f n =>
    have := (cur_stay (S := S) (init := R.init) (D := D) (y := .f n) fun d _ => by cases d.it.2.d <;> rfl).1
    rw [this] at hcur; exact hcur

theorem eff_not_read {op : AOp} (h : isEff op = true) : isRead op = false := by
  cases op <;> first | rfl | (simp [isEff] at h; done)

/-- an effect is carried out -/
theorem Inv.effect (I : Inv R S D (x :: rest) rs m st a w) (hCV : CVS P R.CV) {F : Fence} (hF : WideF F) (hcx : R.cx.rnd = none → F = Fence.wide) {c : Oper} (hc : R.ops[x.1]? = some c)
    (hbf : ∀ j, j < R.ops.size → x.2.bf.testBit j = true → S j = true) (heff : isEff x.2.op = true) (hw : wantedA st x.2.grd = some true) (hops : opsD R.CV R.cx R.L (x :: rest) rs st R.Q)
    {K : Act → World → Prop} {QQ : Exit → Act → World → Prop}
    (hK : ∀ v st' m' a' w', Inv R (setS S x.1) (D ++ [⟨x, st.loc, st.tl, v⟩]) rest rs m' st' a' w' → opsD R.CV R.cx R.L rest rs st' R.Q → K a' w')
    (hQ : ∀ ex a' w', CPost P lm nt R.n0 R.m0 R.h0 R.w0 R.Q ex a' w' → QQ ex a' w') : wpOpIn F 0 P R.ops QQ x.1 K a w := by
  obtain ⟨h1, hxL, h2⟩ := I.head
  obtain ⟨c', hc', hop, hg, hdst, hdd⟩ := R.item _ hxL
  rw [hc] at hc'; cases hc'
  have hSx := I.sub x (by simp)
  have hreads : ∀ aa ∈ x.2.uses, evA st.loc st.tl aa = Go.Abs.cur R.init S D aa := fun aa ha => I.reads hbf ha
  have hwant : Region.wanted c (yielded R.ops a.tmps) = true :=
    wanted_rel (m := m) hg (e := Go.Abs.cur R.init S D) (tmps := a.tmps) (fun y aa hy _ => by
      have := I.cur y aa hy
      cases y <;> exact this) (st := st) (fun aa ha => hreads aa (by
        simp only [AOper.uses, List.mem_append]; exact .inr ha)) hw
  unfold wpOpIn
  rw [hc]
  simp only [hwant, if_true]
  simp only [opsD, hw, heff, if_true] at hops
  have hlenx : ∀ i, x.2.d = .l i → i < st.loc.length := fun i hi => by rw [I.len]; rw [hdd] at hi; exact trD_lt hi
  have hef : ∀ n, Go.Abs.cur R.init S D (.f n) = .fn (.func n) [] [] := fun n => by
    rw [(cur_stay (S := S) (init := R.init) (D := D) (y := .f n) fun d _ => by cases d.it.2.d <;> rfl).1]; rfl
  refine stepOp_sound hCV hF hcx I.sim I.cur hef (fun aa ha => hreads aa (by simp only [AOper.uses, List.mem_append]; exact .inl ha)) I.df I.mks hop hops ?_ ?_
  · intro v h' df' m' cv ds' w' hk hv hsim hex hdf hmks
    obtain ⟨hchk, hk⟩ := hk
    refine hK v _ m' _ w' ?_ hk
    have hcurset : ∀ y, Go.Abs.cur R.init (setS S x.1) (D ++ [⟨x, st.loc, st.tl, v⟩]) y = if (trD lm c.dst).hits y then v else Go.Abs.cur R.init S D y := by
      intro y
      have hp : ((D ++ [(⟨x, st.loc, st.tl, v⟩ : Done)]).map (·.it)).Pairwise Pair := by
        have := R.pairs
        rw [I.split, show D.map (·.it) ++ x :: rest = (D.map (·.it) ++ [x]) ++ rest by simp] at this
        simpa using (List.pairwise_append.1 this).1
      rw [cur_set (S := S) (S' := setS S x.1) (d := ⟨x, st.loc, st.tl, v⟩) hp (by simp) (fun i => rfl), cur_snoc (by exact hSx), hdd]
    refine ⟨?_, fun y => ?_, envD_snoc I.envD I.env, ?_, I.closed_set hxL hbf, ?_, ?_, ?_, ?_, ?_, ?_, ?_, ?_, ?_, ?_⟩
    · rw [I.split]; simp
    · rw [evA_put (st := { st with h := h', df := df' }) hlenx, envs_snoc (fun q hq => h1 q hq)]
      simp only [I.env]
    · exact EvR.put (a := { a with defers := ds' }) (e := Go.Abs.cur R.init S D) (fun y aa hy => (I.cur y aa hy).mono (hex.le I.sim)) hcurset (by rw [show (({ a with defers := ds' } : Act).tmps.size) = nt from I.size]; exact hdst) hv
    · intro y hy
      simp only [setS, I.sub y (by simp [hy]), Bool.false_or, beq_eq_false_iff_ne, ne_eq]
      exact fun e => (h2 y hy).1 e.symm
    · intro d hd hs
      obtain ⟨hs1, hs2⟩ := setS_false hs
      rcases List.mem_append.1 hd with hd | hd
      · rw [St.put_h]
        rcases I.pend d hd hs1 with hk | ⟨k1, k2, k3, k4⟩
        · exact .inl hk
        · refine .inr ⟨k1, k2, fun hal => ?_, fun hal => ?_⟩
          · by_cases hr : isRead d.it.2.op = true
            · have hrec := I.recs d hd hr k1
              have := List.all_eq_true.1 hchk _ hrec
              simp only [Bool.or_eq_true] at this
              rcases this with hb | hb
              · rw [hbf _ (R.lt _ (I.mem hd)) hb] at hs1; cases hs1
              · unfold Rec.again at hb
                split at hb
                · rename_i v' h2' he
                  have hr2 := evOp_read hr he
                  rw [V.beq_eq hb, hr2] at he
                  exact he
                · cases hb
            · exact (evOp_pure k2 (by simpa using hr) hal (k3 hal)).2 h'
          · obtain ⟨f, o, g1, g2, g3, g4, g5, g6⟩ := k4 hal
            exact ⟨f, o, g1, g2, by rw [hex.old _ g6]; exact g3, (hex.ghost _ g6 g3).trans g4, g5, Nat.lt_of_lt_of_le g6 hex.next⟩
      · simp only [List.mem_singleton] at hd
        subst hd
        exact absurd rfl hs2
    · intro d hd d' hd' hs hs' ha ha' hw1 hw2 hne
      rcases List.mem_append.1 hd with hd | hd
      · rcases List.mem_append.1 hd' with hd' | hd'
        · exact I.dist d hd d' hd' (setS_false hs).1 (setS_false hs').1 ha ha' hw1 hw2 hne
        · simp only [List.mem_singleton] at hd'
          subst hd'
          exact absurd rfl (setS_false hs').2
      · simp only [List.mem_singleton] at hd
        subst hd
        exact absurd rfl (setS_false hs).2
    · intro d hd hr hw1
      rcases List.mem_append.1 hd with hd | hd
      · exact I.recs d hd hr hw1
      · simp only [List.mem_singleton] at hd
        subst hd
        rw [eff_not_read heff] at hr; cases hr
    · rw [St.put_h]; exact hsim
    · rw [Act.put_size]; exact I.size
    · rw [St.put_len]; exact I.len
    · rw [St.put_df, Act.put_defers']; exact hdf
    · rw [St.put_h, Act.put_defers']; exact hmks
    · rw [St.put_h]; exact I.ex.trans hex
  · intro v h' m' cv w' hk hv hsim hex
    refine hQ _ _ _ ⟨.pan v, _, m', hk, ⟨cv, rfl, hv⟩, ⟨hsim, I.size, by show (forget st.loc R.L).length = _; rw [forget_len]; exact I.len, ?_, I.df.mono (hex.le I.sim), I.mks.ex hex⟩, I.ex.trans hex⟩
    exact fun y aa hy => (I.left y aa hy).mono (hex.le I.sim)

/-- the abstract machine goes on to the next effect -/
theorem Inv.norm : ∀ (rest : List Item) (D : List Done) (rs : List Rec) (st : St), Inv R S D rest rs m st a w → opsD R.CV R.cx R.L rest rs st R.Q →
    ∃ D' rest' rs' st', Inv R S D' rest' rs' m st' a w ∧ opsD R.CV R.cx R.L rest' rs' st' R.Q ∧ (rest' = [] ∨ ∃ x r, rest' = x :: r ∧ isEff x.2.op = true ∧ wantedA st' x.2.grd = some true)
  | [], D, rs, st, I, h => ⟨D, [], rs, st, I, h, .inl rfl⟩
  | x :: r, D, rs, st, I, h => by
    cases hw : wantedA st x.2.grd with
    | none => simp only [opsD, hw] at h
    | some b =>
      cases b with
      | false =>
        simp only [opsD, hw] at h
        have I' := I.ahead (rs' := rs) (v := .tup []) (h' := st.h) (fun _ h => h) (.inl ⟨hw, rfl, rfl⟩)
        exact Inv.norm r _ rs _ I' h
      | true =>
        by_cases he : isEff x.2.op = true
        · exact ⟨D, x :: r, rs, st, I, h, .inr ⟨x, r, rfl, he, hw⟩⟩
        · simp only [opsD, hw, he, Bool.false_eq_true, if_false] at h
          split at h
          · exact h.elim
          · rename_i v h' hv
            refine Inv.norm r _ _ _ (I.ahead (v := v) (h' := h') (fun q hq => ?_) (.inr ⟨hw, by simpa using he, hv, fun hr => ?_⟩)) h
            · split <;> simp [hq]
            · rw [if_pos hr]; simp

theorem first_false : ∀ (L : List Item), (∃ x ∈ L, S x.1 = false) → ∃ A x B, L = A ++ x :: B ∧ S x.1 = false ∧ ∀ y ∈ A, S y.1 = true
  | [], ⟨_, h, _⟩ => by simp at h
  | y :: r, ⟨x, hx, hs⟩ => by
    cases hy : S y.1 with
    | false => exact ⟨[], y, r, rfl, hy, by simp⟩
    | true =>
      rcases List.mem_cons.1 hx with rfl | hx
      · rw [hy] at hs; cases hs
      · obtain ⟨A, z, B, rfl, h1, h2⟩ := first_false r ⟨x, hx, hs⟩
        exact ⟨y :: A, z, B, rfl, h1, fun q hq => by
          rcases List.mem_cons.1 hq with rfl | hq
          · exact hy
          · exact h2 q hq⟩

theorem draw_main (hCV : CVS P R.CV) {F : Fence} (hF : WideF F) (hcx : R.cx.rnd = none → F = Fence.wide) :
    ∀ (fuel : Nat) (listed : Array Bool) (D : List Done) (rest : List Item) (rs : List Rec) (m : Mp) (st : St) (a : Act) (w : World), listed.size = R.ops.size → R.ops.size ≤ listed.toList.countP id + fuel →
      Inv R (fun i => listed.getD i false) D rest rs m st a w → opsD R.CV R.cx R.L rest rs st R.Q → wpAnyIn F 0 P .any R.ops (CPost P lm nt R.n0 R.m0 R.h0 R.w0 R.Q) fuel listed a w := by
  intro fuel
  -- all is done
  have fin : ∀ (listed : Array Bool) (D : List Done) (rest : List Item) (rs : List Rec) (m : Mp) (st : St) (a : Act) (w : World), listed.size = R.ops.size → Inv R (fun i => listed.getD i false) D rest rs m st a w → opsD R.CV R.cx R.L rest rs st R.Q →
      (∀ x ∈ R.L, listed.getD x.1 false = true) → CPost P lm nt R.n0 R.m0 R.h0 R.w0 R.Q .normal a w := by
    intro listed D rest rs m st a w hsz I hops hall
    cases rest with
    | cons x r =>
      have h1 := I.sub x (by simp)
      have h2 := hall x (by rw [I.split]; simp)
      rw [h2] at h1; cases h1
    | nil =>
      refine ⟨.nrm, st, m, hops, trivial, ⟨I.sim, I.size, I.len, ?_, I.df, I.mks⟩, I.ex⟩
      intro y aa hy
      have := I.cur y aa hy
      rw [I.env]
      unfold Go.Abs.cur at this
      unfold envs
      cases hq : D.find? (fun d => d.it.2.d.hits aa) with
      | none => rw [hq] at this; exact this
      | some q =>
        rw [hq] at this
        simp only [hall q.it (I.mem (List.mem_of_find?_eq_some hq)), if_true] at this
        exact this
  have ready_nil : ∀ (listed : Array Bool), listed.size = R.ops.size → Region.ready .any R.ops listed = [] → ∀ x ∈ R.L, listed.getD x.1 false = true := by
    intro listed hsz hr x hx
    cases hS : listed.getD x.1 false with
    | true => rfl
    | false =>
      exfalso
      obtain ⟨A, y, B, e, h1, h2⟩ := first_false (S := fun i => listed.getD i false) R.L ⟨x, hx, hS⟩
      obtain ⟨c, hc, h3⟩ := edgesBack_spec R.back A y B e
      have hy : y ∈ R.L := by rw [e]; simp
      have hlt := R.lt y hy
      have : y.1 ∈ Region.ready .any R.ops listed := by
        refine mem_ready.2 ⟨?_, c, hc, fun ed he hb => ?_⟩
        · simp only [Array.getD_eq_getD_getElem?] at h1 ⊢
          rw [Array.getElem?_eq_getElem (by omega)] at h1 ⊢
          simpa using h1
        · rcases h3 ed he hb with h4 | ⟨z, hz, h4⟩
          · simp at h4
          · rw [← h4]; exact h2 z hz
      rw [hr] at this
      simp at this
  induction fuel with
  | zero =>
    intro listed D rest rs m st a w hsz hcnt I hops
    have hall : ∀ x ∈ R.L, listed.getD x.1 false = true := by
      have : listed.toList.countP id = listed.toList.length := by
        have := List.countP_le_length (p := id) (l := listed.toList)
        simp only [Array.length_toList] at this ⊢
        omega
      rw [List.countP_eq_length] at this
      intro x hx
      have hlt := R.lt x hx
      simp only [Array.getD_eq_getD_getElem?]
      rw [Array.getElem?_eq_getElem (by omega)]
      exact this _ (by simp)
    refine ⟨?_, fin listed D rest rs m st a w hsz I hops hall⟩
    cases hr : Region.ready .any R.ops listed with
    | nil => rfl
    | cons i l =>
      exfalso
      have : i ∈ Region.ready .any R.ops listed := by rw [hr]; simp
      obtain ⟨h1, o, ho, _⟩ := mem_ready.1 this
      have hlt : i < R.ops.size := (Array.getElem?_eq_some_iff.1 ho).1
      obtain ⟨x, hx, rfl⟩ := R.all i hlt
      have := hall x hx
      simp only [Array.getD_eq_getD_getElem?] at h1 this
      rw [Array.getElem?_eq_getElem (by omega)] at h1 this
      simp at h1 this
      rw [h1] at this; cases this
  | succ fuel ih =>
    intro listed D rest rs m st a w hsz hcnt I hops
    obtain ⟨D, rest, rs, st, I, hops, hnorm⟩ := Inv.norm rest D rs st I hops
    refine ⟨fun hr => fin listed D rest rs m st a w hsz I hops (ready_nil listed hsz hr), fun i hi => ?_⟩
    obtain ⟨hun, c, hc, hedge⟩ := mem_ready.1 hi
    have hlt : i < R.ops.size := (Array.getElem?_eq_some_iff.1 hc).1
    obtain ⟨x, hx, rfl⟩ := R.all i hlt
    have hS : listed.getD x.1 false = false := by
      simp only [Array.getD_eq_getD_getElem?] at hun ⊢
      rw [Array.getElem?_eq_getElem (by omega)] at hun ⊢
      simpa using hun
    have hbf := I.bf hx hc hedge
    have hsz' : (listed.setIfInBounds x.1 true).size = R.ops.size := by simpa using hsz
    have hset : (fun j => (listed.setIfInBounds x.1 true).getD j false) = setS (fun i => listed.getD i false) x.1 := by
      funext j
      simp only [setS, Array.getD_eq_getD_getElem?]
      by_cases h : j = x.1
      · subst h; simp [hsz, hlt]
      · rw [Array.getElem?_setIfInBounds_ne (by omega)]
        have : (j == x.1) = false := by simpa using h
        simp [this]
    have hcnt' : R.ops.size ≤ (listed.setIfInBounds x.1 true).toList.countP id + fuel := by
      have hlt' : x.1 < listed.toList.length := by simpa [hsz] using hlt
      rw [Array.toList_setIfInBounds, List.countP_set hlt']
      have : listed.toList[x.1] = false := by
        simp only [Array.getD_eq_getD_getElem?] at hS
        rw [Array.getElem?_eq_getElem (by omega)] at hS
        simpa using hS
      simp [this]
      simp at hcnt
      omega
    have hmem := hx
    rw [I.split] at hmem
    rcases List.mem_append.1 hmem with hD | hrest
    · obtain ⟨d, hd, rfl⟩ := List.mem_map.1 hD
      exact I.late hF hd hS hc hbf fun m' a' w' I' => ih _ D rest rs m' st a' w' hsz' hcnt' (hset ▸ I') hops
    · rcases hnorm with rfl | ⟨y, r, rfl, heff, hw⟩
      · simp at hrest
      · rcases List.mem_cons.1 hrest with rfl | hr
        · exact I.effect hCV hF hcx hc hbf heff hw hops (fun v st' m' a' w' I' h' => ih _ _ r rs m' st' a' w' hsz' hcnt' (hset ▸ I') h') (fun _ _ _ h => h)
        · exfalso
          obtain ⟨_, _, h2⟩ := I.head
          obtain ⟨_, _, _, hp⟩ := h2 x hr
          rcases hp with hp | ⟨hp, _⟩
          · have h3 := hbf _ (R.lt y (by rw [I.split]; simp)) hp
            have h4 := I.sub y (by simp)
            rw [h3] at h4; cases h4
          · rw [heff] at hp; cases hp
end steps
end
end Go.Abs
