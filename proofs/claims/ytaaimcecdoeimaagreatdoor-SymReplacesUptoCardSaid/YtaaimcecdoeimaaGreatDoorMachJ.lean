/-
  A call that was run over a part of the heap holds over the whole of it; what it laid for itself is forgotten.
-/
import Derived.Test.YtaaimcecdoeimaaGreatDoorMachG
import Derived.Test.YtaaimcecdoeimaaGreatDoorMachI
import Derived.Test.YtaaimcecdoeimaaGreatDoorMachF
namespace Go.Abs

/-! ### values that name blocks below a bound alone -/
mutual
def V.under (n : Nat) : V → Bool
  | .ptr b _ => Nat.blt b n
  | .sl b _ _ _ => Nat.blt b n
  | .map b => Nat.blt b n
  | .fn f a c => (match f with
    | .func _ => true
    | .yield l => Nat.blt l n
    | _ => true) && (V.unders n a && V.unders n c)
  | .iface _ v => V.under n v
  | .agg l => V.unders n l
  | .tup l => V.unders n l
  | _ => true
def V.unders (n : Nat) : List V → Bool
  | [] => true
  | a :: l => V.under n a && V.unders n l
end

def O.under (n : Nat) : O → Bool
  | .cells c => V.unders n c
  | .map es _ => es.all fun e => V.under n e.1 && V.under n e.2.1
  | .umap es => es.all fun e => V.under n e.1 && V.under n e.2
  | _ => false

def Agree (n : Nat) (m m' : Mp) : Prop := ∀ b, b < n → m b = m' b

theorem blt_lt {a b : Nat} (h : Nat.blt a b = true) : a < b := Nat.le_of_ble_eq_true h

mutual
theorem VR.agree {n : Nat} {m m' : Mp} (ha : Agree n m m') : ∀ {v : V} {x : Value}, V.under n v = true → VR m v x → VR m' v x
  | .bad, _, _, _ => by simp only [VR]
  | .bool _, _, _, r => by simpa only [VR] using r
  | .int _ _, _, _, r => by simpa only [VR] using r
  | .str _, _, _, r => by simpa only [VR] using r
  | .nilp, _, _, r => by simpa only [VR] using r
  | .ptr b _, _, h, r => by
    simp only [VR] at r ⊢; simp only [V.under] at h
    obtain ⟨x, a, e⟩ := r; exact ⟨x, by rw [← ha b (blt_lt h)]; exact a, e⟩
  | .nils, _, _, r => by simpa only [VR] using r
  | .sl b .., _, h, r => by
    simp only [VR] at r ⊢; simp only [V.under] at h
    obtain ⟨ca, cp, a, b', c, x, d, e⟩ := r
    exact ⟨ca, cp, a, b', c, x, by rw [← ha b (blt_lt h)]; exact d, e⟩
  | .nilm, _, _, r => by simpa only [VR] using r
  | .map b, _, h, r => by
    simp only [VR] at r ⊢; simp only [V.under] at h
    obtain ⟨x, a, e⟩ := r; exact ⟨x, by rw [← ha b (blt_lt h)]; exact a, e⟩
  | .nilf, _, _, r => by simpa only [VR] using r
  | .fn f a c, _, h, r => by
    simp only [VR] at r ⊢; simp only [V.under, Bool.and_eq_true] at h
    obtain ⟨f', a', b', e, hf, h1, h2⟩ := r
    refine ⟨f', a', b', e, ?_, VRs.agree ha h.2.1 h1, VRs.agree ha h.2.2 h2⟩
    cases f with
    | func _ => simpa only [FnR] using hf
    | yield l =>
      simp only [FnR] at hf ⊢
      obtain ⟨x, h3, h4⟩ := hf
      exact ⟨x, by rw [← ha l (blt_lt h.1)]; exact h3, h4⟩
    | _ => simp only [FnR] at hf
  | .nili, _, _, r => by simpa only [VR] using r
  | .iface _ v, _, h, r => by
    simp only [VR] at r ⊢; simp only [V.under] at h
    obtain ⟨x, a, e⟩ := r; exact ⟨x, a, VR.agree ha h e⟩
  | .agg l, _, h, r => by
    simp only [VR] at r ⊢; simp only [V.under] at h
    obtain ⟨x, a, e⟩ := r; exact ⟨x, a, VRs.agree ha h e⟩
  | .tup l, _, h, r => by
    simp only [VR] at r ⊢; simp only [V.under] at h
    obtain ⟨x, a, e⟩ := r; exact ⟨x, a, VRs.agree ha h e⟩
theorem VRs.agree {n : Nat} {m m' : Mp} (ha : Agree n m m') : ∀ {l : List V} {r : List Value}, V.unders n l = true → VRs m l r → VRs m' l r
  | [], _, _, r => by simpa only [VRs] using r
  | _ :: _, _, h, r => by
    simp only [VRs] at r ⊢; simp only [V.unders, Bool.and_eq_true] at h
    obtain ⟨x, r', e, a, b⟩ := r
    exact ⟨x, r', e, VR.agree ha h.1 a, VRs.agree ha h.2 b⟩
end

theorem ERs.agree {n : Nat} {m m' : Mp} (ha : Agree n m m') : ∀ {l : List (V × V × Nat)} {r : List MapEntry}, (l.all fun e => V.under n e.1 && V.under n e.2.1) = true → ERs m l r → ERs m' l r
  | [], _, _, r => r
  | _ :: _, _, h, r => by
    simp only [ERs] at r ⊢; simp only [List.all_cons, Bool.and_eq_true] at h
    obtain ⟨x, r', e, a, b⟩ := r
    exact ⟨x, r', e, ⟨VR.agree ha h.1.1 a.1, VR.agree ha h.1.2 a.2.1, a.2.2⟩, ERs.agree ha (by simpa using h.2) b⟩

theorem OR.agree {P : Program} {n : Nat} {m m' : Mp} (ha : Agree n m m') {x : MB} : ∀ {o : O} {co : Obj}, O.under n o = true → OR P m x o co → OR P m' x o co
  | .cells .., _, h, r => by
    obtain ⟨cc, e, fr, a, b, c, d, g⟩ := r
    exact ⟨cc, e, fr, a, b, c, d, VRs.agree ha h g⟩
  | .map .., _, h, r => by obtain ⟨es', a, b⟩ := r; exact ⟨es', a, ERs.agree ha h b⟩
  | .umap es, _, h, r => by
    obtain ⟨l, cl, es', a, b, c⟩ := r
    refine ⟨l, cl, es', a, ERs.agree ha ?_ b, c⟩
    rw [List.all_eq_true]
    intro e he
    simp only [O.under, List.all_eq_true] at h
    exact h (e.1, e.2.1) (c.mem_iff.1 (List.mem_map.2 ⟨e, he, rfl⟩))
  | .miter .., _, h, _ => by cases h
  | .siter .., _, h, _ => by cases h
  | .rcells .., _, h, _ => by cases h
  | .loop .., _, h, _ => by cases h
  | .dead, _, h, _ => by cases h

/-- a part of a heap: its blocks are as they are there -/
structure Part (P : Program) (hS h : H) : Prop where
  next : hS.next ≤ h.next
  glob : P.globals.size ≤ hS.next
  same : ∀ b o, hS.get b = some o → h.get b = some o
  top : ∀ b, hS.next ≤ b → hS.get b = none
  closed : ∀ b o, hS.get b = some o → O.under hS.next o = true

def cutM (n : Nat) (m : Mp) : Mp := fun b => if b < n then m b else none

theorem agree_cut (n : Nat) (m : Mp) : Agree n m (cutM n m) := fun b hb => by unfold cutM; rw [if_pos hb]
theorem cutM_some {n : Nat} {m : Mp} {b : Nat} {x : MB} (h : cutM n m b = some x) : b < n ∧ m b = some x := by
  unfold cutM at h
  by_cases hb : b < n
  · rw [if_pos hb] at h; exact ⟨hb, h⟩
  · rw [if_neg hb] at h; cases h

theorem Part.live {P : Program} {hS h : H} (p : Part P hS h) {b : Nat} (l : live hS.get b) : live h.get b := by
  obtain ⟨o, e, ne⟩ := l
  exact ⟨o, p.same b o e, ne⟩

theorem Part.sim {P : Program} {hS h : H} (p : Part P hS h) {m : Mp} {w : World} (s : Sim P m h.get h.next w) : Sim P (cutM hS.next m) hS.get hS.next w where
  dom b x e := by
    obtain ⟨h1, h2⟩ := cutM_some e
    exact ⟨h1, (s.dom b x h2).2⟩
  obj b x o e k l := by
    obtain ⟨h1, h2⟩ := cutM_some e
    obtain ⟨co, h3, h4⟩ := s.obj b x o h2 (p.same b o k) l
    exact ⟨co, h3, OR.agree (agree_cut _ _) (p.closed b o k) h4⟩
  inj b b' x x' e e' l l' q := s.inj b b' x x' (cutM_some e).2 (cutM_some e').2 (p.live l) (p.live l') q
  glob i hi := by
    obtain ⟨x, h1, h2, h3⟩ := s.glob i hi
    exact ⟨x, by unfold cutM; rw [if_pos (by have := p.glob; omega)]; exact h1, h2, h3⟩
  top b hb l := by
    obtain ⟨o, e, _⟩ := l
    rw [p.top b hb] at e; cases e

/-- behind a call over a part that left the part as it was -/
theorem Part.back {P : Program} {hS h : H} (p : Part P hS h) {m : Mp} {w w' : World} (s : Sim P m h.get h.next w) {e : Ending} {Q : Ret → Prop} {R : Ret → H → Prop}
    (hp : Post P (cutM hS.next m) hS w (fun r h' => Q r ∧ ∀ b o, hS.get b = some o → h'.get b = some o) e w')
    (hQ : ∀ r, Q r → R r h ∧ ∀ v, r = .ret v → V.under hS.next v = true) (hnp : ∀ v, ¬ Q (.pan v)) : Post P m h w R e w' := by
  obtain ⟨r, h', m', ⟨hq, hsame⟩, hend, s', x⟩ := hp
  have hag : Agree hS.next m' m := fun b hb => by rw [x.old b hb]; unfold cutM; rw [if_pos hb]
  refine ⟨r, h, m, (hQ r hq).1, ?_, ?_, ?_⟩
  · cases r with
    | ret v =>
      cases e with
      | returned cv => exact VR.agree hag ((hQ _ hq).2 v rfl) hend
      | _ => exact False.elim hend
    | pan v => exact absurd hq (hnp v)
  · refine ⟨fun b y k => ⟨(s.dom b y k).1, Nat.lt_of_lt_of_le (s.dom b y k).2 x.size⟩, ?_, s.inj, s.glob, s.top⟩
    intro b y o k g l
    cases hS' : hS.get b with
    | some o2 =>
      have e2 := p.same b o2 hS'
      rw [g] at e2; cases e2
      have hb : b < hS.next := Nat.lt_of_not_le fun hh => by rw [p.top b hh] at hS'; cases hS'
      have k2 : m' b = some y := by rw [hag b hb]; exact k
      obtain ⟨co, h1, h2⟩ := s'.obj b y o k2 (hsame b o hS') l
      exact ⟨co, h1, OR.agree hag (p.closed b o hS') h2⟩
    | none =>
      obtain ⟨co, h1, h2⟩ := s.obj b y o k g l
      refine ⟨co, ?_, h2⟩
      rw [x.keep y.blk (s.dom b y k).2 ?_]
      · exact h1
      · intro c z kc lc q
        obtain ⟨h3, h4⟩ := cutM_some kc
        have e3 := s.inj c b z y h4 k (p.live lc) ⟨o, g, l⟩ q
        obtain ⟨o3, e4, _⟩ := lc
        rw [e3, hS'] at e4; cases e4
  · refine ⟨Nat.le_refl _, x.size, fun _ _ => rfl, fun b y hb k => absurd (s.dom b y k).1 (by omega), ?_, fun _ _ _ => rfl, fun _ _ l => l, ?_, x.rest⟩
    · intro r hr hn
      refine x.keep r hr ?_
      intro c z kc lc
      exact hn c z (cutM_some kc).2 (p.live lc)
    · intro b y c hb hs km kg _
      refine ⟨kg, ?_⟩
      cases hS' : hS.get b with
      | some o2 =>
        have e2 := p.same b o2 hS'
        rw [kg] at e2; cases e2
        have := p.closed b _ hS'
        cases this
      | none =>
        refine x.keep y.blk hs ?_
        intro c z kc lc q
        obtain ⟨h3, h4⟩ := cutM_some kc
        have e3 := s.inj c b z y h4 km (p.live lc) ⟨_, kg, by nofun⟩ q
        obtain ⟨o3, e4, _⟩ := lc
        rw [e3, hS'] at e4; cases e4

/-- a call of a function off a run over a part of the heap that it leaves as it was: whole -/
theorem part_calls {P : Program} {E : Env} (hP : P.follows .mixedOrders = true) (hE : FtS P E) (hX : ExtS P E) {k : Nat} {f : FuncId} {args : List V} {hS h : H} {v : V}
    (hr : (E.ft f).any (·.rcv.isNone) = true)
    (hf : (sems E k).frame f args none hS (fun r _ h' => r = .ret v ∧ ∀ b o, hS.get b = some o → h'.get b = some o))
    (hv : V.under hS.next v = true) (ha : V.unders hS.next args = true) (p : Part P hS h)
    {m : Mp} {w : World} (s : Sim P m h.get h.next w) {cargs : Array Value} (hc : VRs m args cargs.toList) {R : Ret → H → Prop} (hR : R (.ret v) h) :
    Callable P f ∧ CallsIn Fence.wide 0 P f cargs w (Post P m h w R) := by
  obtain ⟨h1, h2⟩ := (sems_sound hP hE hX k).2.1 f args hS _ hr hf (cutM hS.next m) w cargs (p.sim s) (VRs.agree (agree_cut _ _) ha hc)
  refine ⟨h1, callsIn_wide.2 ((callsIn_wide.1 h2).mono ?_)⟩
  intro e w' hp
  refine p.back s (Q := fun r => r = .ret v) (Post.mono ?_ hp) ?_ ?_
  · rintro r h' ⟨got, hh⟩
    exact hh
  · rintro r rfl
    exact ⟨hR, fun v' e => by cases e; exact hv⟩
  · intro v' e; cases e

/-! ### parts told by a list -/
def H.skip (h : H) : Option O → H
  | some o => h.push o
  | none => { h with next := h.next + 1 }
def H.ofList (n0 : Nat) (l : List (Option O)) : H := l.foldl H.skip ⟨.leaf, n0⟩

/-- the same object: cells and maps alone -/
def eqEs : List (V × V × Nat) → List (V × V × Nat) → Bool
  | [], [] => true
  | a :: l, b :: r => V.beq a.1 b.1 && (V.beq a.2.1 b.2.1 && (Nat.beq a.2.2 b.2.2 && eqEs l r))
  | _, _ => false
def eqO : O → O → Bool
  | .cells a, .cells b => V.beqs a b
  | .map a c, .map b d => eqEs a b && Nat.beq c d
  | _, _ => false
theorem eqEs_eq : ∀ {a b : List (V × V × Nat)}, eqEs a b = true → a = b
  | [], [], _ => rfl
  | [], _ :: _, h => by cases h
  | _ :: _, [], h => by cases h
  | (a1, a2, a3) :: l, (b1, b2, b3) :: r, h => by
    simp only [eqEs, Bool.and_eq_true] at h
    obtain ⟨h1, h2, h3, h4⟩ := h
    rw [V.beq_eq h1, V.beq_eq h2, Nat.eq_of_beq_eq_true h3, eqEs_eq h4]
theorem eqO_eq {a b : O} (h : eqO a b = true) : a = b := by
  cases a <;> cases b <;> first | (simp only [eqO, Bool.false_eq_true] at h; done) | skip
  · simp only [eqO] at h; rw [V.beqs_eq h]
  · simp only [eqO, Bool.and_eq_true] at h
    rw [eqEs_eq h.1, Nat.eq_of_beq_eq_true h.2]

/-- a heap has what a list tells -/
noncomputable def fits (h : H) : Nat → List (Option O) → Bool
  | _, [] => true
  | n, none :: l => fits h (n + 1) l
  | n, some o :: l => (match h.getF n with
    | some o' => eqO o' o
    | none => false) && fits h (n + 1) l

def told : Nat → List (Option O) → Nat → Option O
  | _, [], _ => none
  | n, a :: l, b => if b = n then a else told (n + 1) l b

theorem told_cons (n : Nat) (a : Option O) (l : List (Option O)) (b : Nat) : told n (a :: l) b = if b = n then a else told (n + 1) l b := rfl

theorem told_lt : ∀ {l : List (Option O)} {n b : Nat} {o : O}, told n l b = some o → n ≤ b ∧ b < n + l.length
  | [], _, _, _, h => by cases h
  | a :: l, n, b, o, h => by
    unfold told at h
    by_cases hb : b = n
    · subst hb; simp
    · rw [if_neg hb] at h
      have := told_lt h
      simp only [List.length_cons]; omega

theorem get_ofList (l : List (Option O)) : ∀ (h : H) (b : Nat), (l.foldl H.skip h).get b = (told h.next l b).or (h.get b) ∧ (l.foldl H.skip h).next = h.next + l.length := by
  induction l with
  | nil => intro h b; exact ⟨rfl, rfl⟩
  | cons a l ih =>
    intro h b
    have hn : (H.skip h a).next = h.next + 1 := by cases a <;> rfl
    obtain ⟨h1, h2⟩ := ih (H.skip h a) b
    rw [List.foldl_cons]
    refine ⟨?_, by rw [h2, hn, List.length_cons]; omega⟩
    rw [h1, hn, told_cons]
    by_cases hb : b = h.next
    · subst hb
      rw [if_pos rfl]
      have : told (h.next + 1) l h.next = none := by
        cases hc : told (h.next + 1) l h.next with
        | none => rfl
        | some o => have := told_lt hc; omega
      rw [this]
      cases a with
      | none => rfl
      | some o => show (h.push o).get h.next = _; rw [H.get_push, if_pos rfl]; rfl
    · rw [if_neg hb]
      congr 1
      cases a with
      | none => rfl
      | some o => show (h.push o).get b = _; rw [H.get_push, if_neg hb]

theorem ofList_get (n0 : Nat) (l : List (Option O)) (b : Nat) : (H.ofList n0 l).get b = told n0 l b := by
  unfold H.ofList
  rw [(get_ofList l _ b).1]
  show (told n0 l b).or (Tr.get .leaf b) = _
  cases told n0 l b <;> rfl
theorem ofList_next (n0 : Nat) (l : List (Option O)) : (H.ofList n0 l).next = n0 + l.length := (get_ofList l ⟨.leaf, n0⟩ 0).2

theorem fits_told {h : H} : ∀ {l : List (Option O)} {n : Nat}, fits h n l = true → ∀ b o, told n l b = some o → h.get b = some o
  | [], _, _, _, _, e => by cases e
  | none :: l, n, hf, b, o, e => by
    unfold fits at hf; unfold told at e
    by_cases hb : b = n
    · rw [if_pos hb] at e; cases e
    · rw [if_neg hb] at e; exact fits_told hf b o e
  | some a :: l, n, hf, b, o, e => by
    unfold fits at hf; unfold told at e
    rw [Bool.and_eq_true] at hf
    by_cases hb : b = n
    · rw [if_pos hb] at e; cases e
      have h1 := hf.1
      rw [H.getF_eq, ← hb] at h1
      split at h1
      · rename_i o' e'; rw [e', eqO_eq h1]
      · cases h1
    · rw [if_neg hb] at e; exact fits_told hf.2 b o e

def under (n : Nat) : List (Option O) → Bool
  | [] => true
  | none :: l => under n l
  | some o :: l => O.under n o && under n l

theorem under_told {n : Nat} : ∀ {l : List (Option O)} {k : Nat}, under n l = true → ∀ b o, told k l b = some o → O.under n o = true
  | [], _, _, _, _, e => by cases e
  | none :: l, k, hu, b, o, e => by
    unfold under at hu; unfold told at e
    by_cases hb : b = k
    · rw [if_pos hb] at e; cases e
    · rw [if_neg hb] at e; exact under_told hu b o e
  | some a :: l, k, hu, b, o, e => by
    unfold under at hu; unfold told at e
    rw [Bool.and_eq_true] at hu
    by_cases hb : b = k
    · rw [if_pos hb] at e; cases e; exact hu.1
    · rw [if_neg hb] at e; exact under_told hu.2 b o e

/-- what a function gives over a part of a heap, the part left as it is -/
structure Memo where
  args : List V
  n0 : Nat
  l : List (Option O)
  v : V

noncomputable def Memo.run (M : Memo) (args : List V) (h : H) : Option (Ret × H) :=
  match V.beqs args M.args && (Nat.ble (M.n0 + M.l.length) h.next && fits h M.n0 M.l) with
  | true => some (.ret M.v, h)
  | false => none

def Memo.closed (M : Memo) (n : Nat) : Bool :=
  Nat.ble n M.n0 && (under (M.n0 + M.l.length) M.l && (V.under (M.n0 + M.l.length) M.v && V.unders (M.n0 + M.l.length) M.args))

def Ret.isV (v : V) : Ret → Bool
  | .ret x => V.beq x v
  | .pan _ => false

/-- the run that shows it -/
noncomputable def Memo.shown (M : Memo) (E : EEnv) (k : Nat) (f : FuncId) : Bool :=
  (evs2 E k).frame f M.args none (H.ofList M.n0 M.l) (fun r _ h => r.isV M.v && fits h M.n0 M.l)

/-- an executable contract of a function is true of the program -/
def XOK (P : Program) (f : FuncId) (g : List V → H → Option (Ret × H)) : Prop :=
  ∀ (args : List V) (h : H) (r : Ret) (h' : H), g args h = some (r, h') → ∀ (R : Ret → H → Prop), R r h' → ∀ (m : Mp) (w : World) (cargs : Array Value), Sim P m h.get h.next w → VRs m args cargs.toList →
    Callable P f ∧ CallsIn Fence.wide 0 P f cargs w (Post P m h w R)

def XtS (P : Program) (E : EEnv) : Prop := ∀ f g, E.xt f = some g → XOK P f g

theorem XtS.ext {P : Program} {E : EEnv} (h : XtS P E) : ExtS P E.env := by
  intro f c hc args h' R hr m w cargs s ha
  unfold EEnv.env at hc
  dsimp only at hc
  cases hx : E.xt f with
  | none => rw [hx] at hc; cases hc
  | some g =>
    rw [hx] at hc
    simp only [Option.map_some, Option.some.injEq] at hc
    subst hc
    obtain ⟨r, h2, hg, hR⟩ := hr
    exact h f g hx args h' r h2 hg R hR m w cargs s ha

theorem Memo.ok {P : Program} {E : EEnv} (hP : P.follows .mixedOrders = true) (hE : FtS P E.env) (hX : XtS P E) {M : Memo} {k : Nat} {f : FuncId}
    (hr : (E.ft f).any (·.rcv.isNone) = true) (hc : M.closed P.globals.size = true) (hs : M.shown E k f = true) : XOK P f M.run := by
  intro args h r h' hg R hR m w cargs s ha
  unfold Memo.run at hg
  split at hg
  · rename_i hb
    simp only [Option.some.injEq, Prod.mk.injEq] at hg
    obtain ⟨rfl, rfl⟩ := hg
    rw [Bool.and_eq_true, Bool.and_eq_true] at hb
    obtain ⟨b1, b2, b3⟩ := hb
    have e1 := V.beqs_eq b1
    subst e1
    unfold Memo.closed at hc
    rw [Bool.and_eq_true, Bool.and_eq_true, Bool.and_eq_true] at hc
    obtain ⟨c1, c2, c3, c4⟩ := hc
    have hp : Part P (H.ofList M.n0 M.l) h := by
      refine ⟨?_, ?_, ?_, ?_, ?_⟩
      · rw [ofList_next]; exact Nat.le_of_ble_eq_true b2
      · rw [ofList_next]; have := Nat.le_of_ble_eq_true c1; omega
      · intro b o e; rw [ofList_get] at e; exact fits_told b3 b o e
      · intro b hb
        rw [ofList_next] at hb
        rw [ofList_get]
        cases hc : told M.n0 M.l b with
        | none => rfl
        | some o => have := told_lt hc; omega
      · intro b o e; rw [ofList_get] at e; rw [ofList_next]; exact under_told c2 b o e
    refine part_calls hP hE hX.ext (E := E.env) (k := k) (hS := H.ofList M.n0 M.l) (v := M.v) hr ?_ (by rw [ofList_next]; exact c3) (by rw [ofList_next]; exact c4) hp s ha hR
    refine (evs2_im E k).2 _ _ _ _ _ _ ?_ hs
    intro r got h2 hh
    rw [Bool.and_eq_true] at hh
    refine ⟨?_, ?_⟩
    · cases r with
      | ret x => exact congrArg Ret.ret (V.beq_eq hh.1)
      | pan x => cases hh.1
    · intro b o e
      rw [ofList_get] at e
      exact fits_told hh.2 b o e
  · cases hg

end Go.Abs
