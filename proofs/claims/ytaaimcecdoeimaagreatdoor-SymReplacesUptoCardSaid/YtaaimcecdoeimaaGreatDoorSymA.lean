/-
  Straight-line code of the abstract machine, run at once.
-/
import Derived.Test.YtaaimcecdoeimaaGreatDoorLib
import Derived.Test.YtaaimcecdoeimaaGreatDoorMachG
namespace Go.Abs
open Go.Abs.Sy

def runOps : List AOper → St → Option St
  | [], st => some st
  | o :: r, st => match wantedA st o.grd with
    | none => none
    | some false => runOps r (st.put o.d (.tup []))
    | some true => match evOp o.op (evA st.loc st.tl) st.h with
      | some (v, h') => runOps r (({ st with h := h' } : St).put o.d v)
      | none => none

theorem step_of_ev {CV : CVT} {cx : Cx} {op : AOp} {st : St} {K : V → St → Prop} {Q : X → St → Prop} {v : V} {h' : H} (he : evOp op (evA st.loc st.tl) st.h = some (v, h')) (hn : K v { st with h := h' }) :
    stepOp CV cx op st K Q := by
  cases op <;> first | (cases he; done) | (unfold stepOp; dsimp only; rw [he]; exact hn)

theorem opsN_run {CV : CVT} {cx : Cx} : ∀ {ops : List AOper} {st st' : St} {Q : X → St → Prop}, runOps ops st = some st' → Q .nrm st' → opsN CV cx ops st Q
  | [], st, st', Q, h, hq => by cases h; exact hq
  | o :: r, st, st', Q, h, hq => by
    unfold runOps at h
    unfold opsN
    split at h
    · cases h
    · rename_i hw; simp only [hw]; exact opsN_run h hq
    · rename_i hw; simp only [hw]
      split at h
      · rename_i v h' he
        exact step_of_ev he (opsN_run h hq)
      · cases h

theorem opsN_app {CV : CVT} {cx : Cx} : ∀ {a b : List AOper} {st st' : St} {Q : X → St → Prop}, runOps a st = some st' → opsN CV cx b st' Q → opsN CV cx (a ++ b) st Q
  | [], b, st, st', Q, h, hq => by cases h; exact hq
  | o :: r, b, st, st', Q, h, hq => by
    unfold runOps at h
    show opsN CV cx (o :: (r ++ b)) st Q
    unfold opsN
    split at h
    · cases h
    · rename_i hw; simp only [hw]; exact opsN_app h hq
    · rename_i hw; simp only [hw]
      split at h
      · rename_i v h' he
        exact step_of_ev he (opsN_app h hq)
      · cases h

theorem opsN_cut {CV : CVT} {cx : Cx} (n : Nat) {ops : List AOper} {st st' : St} {Q : X → St → Prop} (h : runOps (ops.take n) st = some st') (hq : opsN CV cx (ops.drop n) st' Q) : opsN CV cx ops st Q := by
  rw [← List.take_append_drop n ops]; exact opsN_app h hq

/-- a drawn region that reads alone -/
theorem opsD_run {CV : CVT} {cx : Cx} {all : List (Nat × AOper)} : ∀ {l : List (Nat × AOper)} {rs : List Rec} {st st' : St} {Q : X → St → Prop}, (l.all fun o => !isEff o.2.op) = true → runOps (l.map (·.2)) st = some st' → Q .nrm st' → opsD CV cx all l rs st Q
  | [], rs, st, st', Q, _, h, hq => by cases h; exact hq
  | o :: r, rs, st, st', Q, hl, h, hq => by
    simp only [List.all_cons, Bool.and_eq_true, Bool.not_eq_true'] at hl
    rw [List.map_cons] at h
    unfold runOps at h
    unfold opsD
    split at h
    · cases h
    · rename_i hw; simp only [hw]; exact opsD_run hl.2 h hq
    · rename_i hw; simp only [hw, hl.1, Bool.false_eq_true, if_false]
      split at h
      · rename_i v h' he
        simp only [he]
        exact opsD_run hl.2 h hq
      · cases h

theorem draw_code {E : Env} {k : Nat} {cx : Cx} {ops : List (Nat × AOper)} {st : St} {Q : X → St → Prop} (h : opsD (callV E (sems E k)) cx ops ops [] { st with tl := [] } Q) : (sems E (k + 1)).code cx (.draw ops) st Q := h
theorem cond_true {E : Env} {k : Nat} {cx : Cx} {c : A} {a b : ACode} {st : St} {Q : X → St → Prop} (hc : evA st.loc st.tl c = .bool true) (h : (sems E k).code cx a { st with tl := [] } Q) : (sems E (k + 1)).code cx (.cond c a b) st Q := by
  show (match evA st.loc st.tl c with | .bool t => (sems E k).code cx (if t then a else b) { st with tl := [] } Q | _ => False)
  rw [hc]; exact h
theorem cond_false {E : Env} {k : Nat} {cx : Cx} {c : A} {a b : ACode} {st : St} {Q : X → St → Prop} (hc : evA st.loc st.tl c = .bool false) (h : (sems E k).code cx b { st with tl := [] } Q) : (sems E (k + 1)).code cx (.cond c a b) st Q := by
  show (match evA st.loc st.tl c with | .bool t => (sems E k).code cx (if t then a else b) { st with tl := [] } Q | _ => False)
  rw [hc]; exact h
theorem skip_code {E : Env} {k : Nat} {cx : Cx} {st : St} {Q : X → St → Prop} (h : Q .nrm st) : (sems E (k + 1)).code cx .skip st Q := h
theorem exit_code {E : Env} {k : Nat} {cx : Cx} {i : Nat} {st : St} {Q : X → St → Prop} (h : Q (.exit i) st) : (sems E (k + 1)).code cx (.exit i) st Q := h
theorem ret_code {E : Env} {k : Nat} {cx : Cx} {st : St} {Q : X → St → Prop} (h : Q .ret st) : (sems E (k + 1)).code cx .ret st Q := h
/-- a region, run -/
theorem region_run {E : Env} {k : Nat} {cx : Cx} {ops : List AOper} {st st' : St} {Q : X → St → Prop} (h : runOps ops { st with tl := [] } = some st') (hq : Q .nrm st') : (sems E (k + 1)).code cx (.region ops) st Q :=
  region_code (opsN_run h hq)
theorem draw_run {E : Env} {k : Nat} {cx : Cx} {ops : List (Nat × AOper)} {st st' : St} {Q : X → St → Prop} (hl : (ops.all fun o => !isEff o.2.op) = true) (h : runOps (ops.map (·.2)) { st with tl := [] } = some st') (hq : Q .nrm st') : (sems E (k + 1)).code cx (.draw ops) st Q :=
  draw_code (opsD_run hl h hq)

/-! ### heaps -/
/-- whatever there was is there; beyond the end there is nothing -/
structure Pres (h h' : H) : Prop where
  next : h.next ≤ h'.next
  same : ∀ b, b < h.next → h'.get b = h.get b
  top : ∀ b, h'.next ≤ b → h'.get b = none
def WF (h : H) : Prop := ∀ b, h.next ≤ b → h.get b = none
theorem Pres.refl {h : H} (w : WF h) : Pres h h := ⟨Nat.le_refl _, fun _ _ => rfl, w⟩
theorem Pres.trans {a b c : H} (h : Pres a b) (k : Pres b c) : Pres a c := ⟨Nat.le_trans h.next k.next, fun i hi => (k.same i (Nat.lt_of_lt_of_le hi h.next)).trans (h.same i hi), k.top⟩
theorem Pres.wf {a b : H} (h : Pres a b) : WF b := h.top
theorem Pres.push {h : H} (w : WF h) (o : O) : Pres h (h.push o) :=
  ⟨Nat.le_succ _, fun b hb => by rw [H.get_push, if_neg (Nat.ne_of_lt hb)], fun b hb => by
    have hb : h.next + 1 ≤ b := hb
    rw [H.get_push, if_neg (by omega)]; exact w b (by omega)⟩
theorem Pres.set {h h' : H} (p : Pres h h') {b : Nat} (hb : h.next ≤ b) (hb2 : b < h'.next) (o : O) : Pres h (h'.set b o) :=
  ⟨p.next, fun c hc => by rw [H.get_set, if_neg (by omega)]; exact p.same c hc, fun c hc => by
    have hc : h'.next ≤ c := hc
    rw [H.get_set, if_neg (by omega)]; exact p.top c hc⟩

theorem wf_lt {h : H} (w : WF h) {b : Nat} {o : O} (e : h.get b = some o) : b < h.next := Nat.lt_of_not_le fun hh => by rw [w b hh] at e; cases e
theorem rd_lt {h : H} (w : WF h) {b o n : Nat} {l : List V} (e : h.rd b o n = some l) : b < h.next := by
  obtain ⟨cs, hg, _⟩ := rd_some e
  exact hg.elim (wf_lt w) (wf_lt w)
theorem rd_pres {h h' : H} (w : WF h) (p : Pres h h') {b o n : Nat} {l : List V} (e : h.rd b o n = some l) : h'.rd b o n = some l := by
  unfold H.rd at e ⊢
  rw [p.same b (by
    apply Nat.lt_of_not_le; intro hh; rw [w b hh] at e; cases e)]
  exact e
end Go.Abs

namespace Go.Abs.Sy
open Go.Abs

structure SV where
  k : Int
  n : Int
  m : Int
  a : Int
  b : Int
  t : List UInt8
  deriving DecidableEq

def SV.cells (s : SV) : List V := [.int .i64 s.k, .int .i64 s.n, .int .i64 s.m, .int .i64 s.a, .int .i64 s.b, .str s.t]
def svs (l : List SV) : List V := l.flatMap SV.cells

theorem svs_length (l : List SV) : (svs l).length = l.length * 6 := by
  induction l with
  | nil => rfl
  | cons a l ih => unfold svs at ih ⊢; rw [List.flatMap_cons, List.length_append, ih, List.length_cons]; show 6 + _ = _; omega
theorem svs_append (a b : List SV) : svs (a ++ b) = svs a ++ svs b := List.flatMap_append
theorem svs_ok (l : List SV) : (svs l).all V.cellOK = true := by
  rw [List.all_eq_true]
  intro x hx
  obtain ⟨s, _, hx⟩ := List.mem_flatMap.1 hx
  simp only [SV.cells, List.mem_cons, List.mem_nil_iff, or_false] at hx
  rcases hx with rfl | rfl | rfl | rfl | rfl | rfl <;> rfl

/-- a list of described values -/
def SlR (h : H) (v : V) (l : List SV) : Prop := (v = .nils ∧ l = []) ∨ ∃ b o cap, v = .sl b o l.length cap ∧ h.rd b o (l.length * 6) = some (svs l)

theorem SlR.pres {h h' : H} (w : WF h) (p : Pres h h') {v : V} {l : List SV} (r : SlR h v l) : SlR h' v l := by
  rcases r with r | ⟨b, o, cap, e, r⟩
  · exact .inl r
  · exact .inr ⟨b, o, cap, e, rd_pres w p r⟩

structure Fr where
  code : Int
  pc : Int
  self : SV
  hold : SV
  vars : List SV
  stack : List SV
  up : Int
  act : Int
  deriving DecidableEq

abbrev Row := Fr × V × V
def Row.cells (r : Row) : List V := .int .i64 r.1.code :: .int .i64 r.1.pc :: (r.1.self.cells ++ (r.1.hold.cells ++ [r.2.1, r.2.2, .int .i64 r.1.up, .int .i64 r.1.act]))
def rows (g : List Row) : List V := g.flatMap Row.cells
theorem Row.len (r : Row) : r.cells.length = 18 := rfl
theorem rows_length (l : List Row) : (rows l).length = l.length * 18 := by
  induction l with
  | nil => rfl
  | cons a l ih => unfold rows at ih ⊢; rw [List.flatMap_cons, List.length_append, ih, List.length_cons, Row.len]; omega
theorem rows_append (a b : List Row) : rows (a ++ b) = rows a ++ rows b := List.flatMap_append

def RowR (h : H) (r : Row) : Prop := SlR h r.2.1 r.1.vars ∧ SlR h r.2.2 r.1.stack
/-- frames -/
def FsR (h : H) (v : V) (g : List Row) : Prop := ((v = .nils ∧ g = []) ∨ ∃ b o cap, v = .sl b o g.length cap ∧ h.rd b o (g.length * 18) = some (rows g)) ∧ ∀ r ∈ g, RowR h r

theorem RowR.pres {h h' : H} (w : WF h) (p : Pres h h') {r : Row} (x : RowR h r) : RowR h' r := ⟨x.1.pres w p, x.2.pres w p⟩
theorem FsR.pres {h h' : H} (w : WF h) (p : Pres h h') {v : V} {g : List Row} (r : FsR h v g) : FsR h' v g := by
  refine ⟨?_, fun x hx => (r.2 x hx).pres w p⟩
  rcases r.1 with r | ⟨b, o, cap, e, r⟩
  · exact .inl r
  · exact .inr ⟨b, o, cap, e, rd_pres w p r⟩

/-- a value's cells are known -/
theorem SlR.cellOK {h : H} {v : V} {l : List SV} (r : SlR h v l) : v.cellOK = true := by
  rcases r with ⟨rfl, _⟩ | ⟨b, o, cap, rfl, _⟩ <;> rfl

theorem SlR.len {h : H} {v : V} {l : List SV} (r : SlR h v l) : lenV h v = some l.length ∧ lkOK .sl v = true := by
  rcases r with ⟨rfl, rfl⟩ | ⟨b, o, cap, rfl, _⟩ <;> exact ⟨rfl, rfl⟩
theorem FsR.len {h : H} {v : V} {g : List Row} (r : FsR h v g) : lenV h v = some g.length ∧ lkOK .sl v = true := by
  rcases r.1 with ⟨rfl, rfl⟩ | ⟨b, o, cap, rfl, _⟩ <;> exact ⟨rfl, rfl⟩

/-- what is written of a list's n-th place -/
theorem rd_part {h : H} {b o n : Nat} {l : List V} (e : h.rd b o n = some l) (i k : Nat) (hk : i + k ≤ n) : h.rd b (o + i) k = some ((l.drop i).take k) := by
  obtain ⟨cs, hg, hle, rfl⟩ := rd_some e
  unfold H.rd
  rcases hg with hg | hg
  all_goals
    rw [hg]
    dsimp only
    rw [if_pos (by omega), List.drop_take, List.take_take, Nat.min_eq_left (by omega), List.drop_drop]

theorem rows_part (g : List Row) (i : Nat) {r : Row} (hr : g[i]? = some r) : ((rows g).drop (i * 18)).take 18 = r.cells := by
  induction g generalizing i with
  | nil => simp at hr
  | cons a g ih =>
    unfold rows at ih ⊢
    rw [List.flatMap_cons]
    cases i with
    | zero =>
      simp only [List.getElem?_cons_zero, Option.some.injEq] at hr
      subst hr
      rw [Nat.zero_mul, List.drop_zero]
      exact List.take_left' rfl
    | succ i =>
      rw [List.getElem?_cons_succ] at hr
      rw [show (i + 1) * 18 = a.cells.length + i * 18 from by rw [Row.len]; omega, List.drop_append, List.drop_of_length_le (by omega), List.nil_append, Nat.add_sub_cancel_left]
      exact ih i hr
theorem svs_part (g : List SV) (i : Nat) {r : SV} (hr : g[i]? = some r) : ((svs g).drop (i * 6)).take 6 = r.cells := by
  induction g generalizing i with
  | nil => simp at hr
  | cons a g ih =>
    unfold svs at ih ⊢
    rw [List.flatMap_cons]
    cases i with
    | zero =>
      simp only [List.getElem?_cons_zero, Option.some.injEq] at hr
      subst hr
      rw [Nat.zero_mul, List.drop_zero]
      exact List.take_left' rfl
    | succ i =>
      rw [List.getElem?_cons_succ] at hr
      have hl : a.cells.length = 6 := rfl
      rw [show (i + 1) * 6 = a.cells.length + i * 6 from by omega, List.drop_append, List.drop_of_length_le (by omega), List.nil_append, show a.cells.length + i * 6 - a.cells.length = i * 6 from by omega]
      exact ih i hr

theorem rd_row {h : H} {b o : Nat} {g : List Row} (e : h.rd b o (g.length * 18) = some (rows g)) {i : Nat} {r : Row} (hr : g[i]? = some r) : h.rd b (o + i * 18) 18 = some r.cells := by
  have hi : i < g.length := (List.getElem?_eq_some_iff.1 hr).1
  rw [rd_part e (i * 18) 18 (by omega), rows_part g i hr]
theorem rd_sv {h : H} {b o : Nat} {g : List SV} (e : h.rd b o (g.length * 6) = some (svs g)) {i : Nat} {r : SV} (hr : g[i]? = some r) : h.rd b (o + i * 6) 6 = some r.cells := by
  have hi : i < g.length := (List.getElem?_eq_some_iff.1 hr).1
  rw [rd_part e (i * 6) 6 (by omega), svs_part g i hr]

/-- the contract of a call: of a function of the table, not deferred -/
theorem callF_ft {E : Env} {S : Sems} {f : FuncId} {args : List V} {h : H} {R : Ret → H → Prop} (hx : E.ext f = none) {fn : AFunc} (hf : E.ft f = some fn) (hr : fn.rcv = none) (hc : S.frame f args none h fun r _ h' => R r h') : callF E S f args h R := by
  unfold callF
  rw [hx, hf]
  exact ⟨by simp [hr], hc⟩
end Go.Abs.Sy

namespace Go.Abs

abbrev Sub {α β : Type} (K K' : α → β → Prop) : Prop := ∀ a b, K a b → K' a b
abbrev Sub3 {α β γ : Type} (K K' : α → β → γ → Prop) : Prop := ∀ a b c, K a b c → K' a b c
def CVLe (C C' : CVT) : Prop := ∀ f a h R R', Sub R R' → C f a h R → C' f a h R'
structure SLe (S S' : Sems) : Prop where
  code : ∀ cx c st Q Q', Sub Q Q' → S.code cx c st Q → S'.code cx c st Q'
  frame : ∀ f a p h R R', Sub3 R R' → S.frame f a p h R → S'.frame f a p h R'
def ExtMono (E : Env) : Prop := ∀ f c, E.ext f = some c → ∀ args h R R', Sub R R' → c args h R → c args h R'

theorem EEnv.mono (E : EEnv) : ExtMono E.env := by
  intro f c hc args h R R' hR hr
  unfold EEnv.env at hc
  dsimp only at hc
  cases hx : E.xt f with
  | none => rw [hx] at hc; cases hc
  | some g =>
    rw [hx] at hc
    simp only [Option.map_some, Option.some.injEq] at hc
    subst hc
    obtain ⟨r, h2, hg, h3⟩ := hr
    exact ⟨r, h2, hg, hR _ _ h3⟩

theorem stepOp_le {C C' : CVT} (hC : CVLe C C') {cx : Cx} {op : AOp} {st : St} {K K' : V → St → Prop} {Q Q' : X → St → Prop} (hK : Sub K K') (hQ : Sub Q Q') (h : stepOp C cx op st K Q) : stepOp C' cx op st K' Q' := by
  have plain : ∀ op : AOp, (match evOp op (evA st.loc st.tl) st.h with | some (v, h') => K v { st with h := h' } | none => False) → (match evOp op (evA st.loc st.tl) st.h with | some (v, h') => K' v { st with h := h' } | none => False) := by
    intro op h
    cases hop : evOp op (evA st.loc st.tl) st.h with
    | none => rw [hop] at h; exact h
    | some p => rw [hop] at h; exact hK _ _ h
  cases op with
  | call f args =>
    refine hC _ _ _ _ _ ?_ h
    intro r h' hr
    cases r with
    | ret v => exact hK _ _ hr
    | pan v => exact hQ _ _ hr
  | defer f args =>
    unfold stepOp at h ⊢
    dsimp only at h ⊢
    split at h
    · rename_i h1 h2; (try simp only [h1, h2]); exact hK _ _ h
    · exact False.elim h
  | panic x =>
    unfold stepOp at h ⊢
    dsimp only at h ⊢
    split at h
    · rename_i h2; (try simp only [h2]); exact hQ _ _ h
    · exact False.elim h
  | recover => exact False.elim h
  | nextMap x =>
    unfold stepOp at h ⊢
    dsimp only at h ⊢
    split at h
    · rename_i h2
      (try simp only [h2])
      split at h
      · rename_i h3; (try simp only [h3]); exact hK _ _ h
      · rename_i h3; (try simp only [h3])
        split at h
        · rename_i h4; (try simp only [h4])
          obtain ⟨a1, a2, a3, a4, a5⟩ := h
          exact ⟨a1, a2, a3, fun e => hK _ _ (a4 e), fun x hx => hK _ _ (a5 x hx)⟩
        · exact False.elim h
      · exact False.elim h
    · exact False.elim h
  | _ => first | exact plain _ h | exact hK _ _ h | exact False.elim h

theorem opsN_le {C C' : CVT} (hC : CVLe C C') {cx : Cx} {Q Q' : X → St → Prop} (hQ : Sub Q Q') : ∀ (l : List AOper) (st : St), opsN C cx l st Q → opsN C' cx l st Q'
  | [], st, h => hQ _ _ h
  | o :: r, st, h => by
    unfold opsN at h ⊢
    split at h
    · exact False.elim h
    · rename_i hw; (try simp only [hw]); exact opsN_le hC hQ r _ h
    · rename_i hw; (try simp only [hw])
      exact stepOp_le hC (fun v st' hv => opsN_le hC hQ r _ hv) hQ h

theorem opsD_le {C C' : CVT} (hC : CVLe C C') {cx : Cx} {all : List (Nat × AOper)} {Q Q' : X → St → Prop} (hQ : Sub Q Q') :
    ∀ (l : List (Nat × AOper)) (rs : List Rec) (st : St), opsD C cx all l rs st Q → opsD C' cx all l rs st Q'
  | [], rs, st, h => hQ _ _ h
  | o :: r, rs, st, h => by
    unfold opsD at h ⊢
    split at h
    · exact False.elim h
    · rename_i hw; (try simp only [hw]); exact opsD_le hC hQ r _ _ h
    · rename_i hw; (try simp only [hw])
      by_cases he : isEff o.2.op = true
      · rw [if_pos he] at h ⊢
        exact stepOp_le hC (fun v st' hv => ⟨hv.1, opsD_le hC hQ r _ _ hv.2⟩) (fun x st' hx => hQ _ _ hx) h
      · rw [if_neg he] at h ⊢
        split at h
        · exact False.elim h
        · rename_i hop; (try simp only [hop]); exact opsD_le hC hQ r _ _ h

theorem callF_le {E : Env} (hE : ExtMono E) {S S' : Sems} (hS : SLe S S') {f : FuncId} {args : List V} {h : H} {R R' : Ret → H → Prop} (hR : Sub R R') (hc : callF E S f args h R) : callF E S' f args h R' := by
  unfold callF at hc ⊢
  split at hc
  · rename_i c hx; (try simp only [hx]); exact hE _ _ hx _ _ _ _ hR hc
  · rename_i hx; (try simp only [hx])
    exact ⟨hc.1, hS.frame _ _ _ _ _ _ (fun r _ h' hr => hR _ _ hr) hc.2⟩

theorem roundF_le {S S' : Sems} (hS : SLe S S') {l : Nat} {args : List V} {h : H} {R R' : Ret → H → Prop} (hR : Sub R R') (hc : roundF S l args h R) : roundF S' l args h R' := by
  unfold roundF at hc ⊢
  split at hc
  · rename_i h1
    (try simp only [])
    split at hc
    · rename_i hl
      rw [if_pos hl]
      refine hS.code _ _ _ _ _ ?_ hc
      intro x st1 hx
      cases x with
      | nrm =>
        dsimp only at hx ⊢
        split at hx
        · rename_i h2
          (try simp only [h2])
          refine hS.code _ _ _ _ _ ?_ hx
          intro y st2 hy
          (try dsimp only at hy ⊢)
          generalize st2.h.get l = o at hy ⊢
          split at hy
          · exact hR _ _ hy
          · exact hR _ _ hy
          · exact hR _ _ hy
          · exact False.elim hy
        · exact False.elim hx
      | exit i => exact False.elim hx
      | ret => exact False.elim hx
      | pan v => exact False.elim hx
    · exact False.elim hc
  · exact False.elim hc

theorem callV_le {E : Env} (hE : ExtMono E) {S S' : Sems} (hS : SLe S S') : CVLe (callV E S) (callV E S') := by
  intro f a h R R' hR hc
  unfold callV at hc ⊢
  split at hc
  · exact callF_le hE hS hR hc
  · exact roundF_le hS hR hc
  · exact False.elim hc

theorem codeF_le {E : Env} (hE : ExtMono E) {S S' : Sems} (hS : SLe S S') (cx : Cx) (c : ACode) (st : St) (Q Q' : X → St → Prop) (hQ : Sub Q Q') (hc : codeF E S cx c st Q) : codeF E S' cx c st Q' := by
  unfold codeF at hc ⊢
  cases c with
  | skip => exact hQ _ _ hc
  | region ops => exact opsN_le (callV_le hE hS) hQ _ _ hc
  | draw ops => exact opsD_le (callV_le hE hS) hQ _ _ _ hc
  | seq a b =>
    refine hS.code _ _ _ _ _ ?_ hc
    intro x st' hx
    cases x with
    | nrm => exact hS.code _ _ _ _ _ hQ hx
    | exit i => exact hQ _ _ hx
    | ret => exact hQ _ _ hx
    | pan v => exact hQ _ _ hx
  | cond c a b =>
    dsimp only at hc ⊢
    split at hc
    · rename_i h1; (try simp only [h1]); exact hS.code _ _ _ _ _ hQ hc
    · exact False.elim hc
  | block id b =>
    refine hS.code _ _ _ _ _ ?_ hc
    intro x st' hx
    cases x with
    | nrm => exact hQ _ _ hx
    | exit i =>
      dsimp only at hx ⊢
      split at hx
      · rename_i h1; rw [if_pos h1]; exact hQ _ _ hx
      · rename_i h1; rw [if_neg h1]; exact hQ _ _ hx
    | ret => exact hQ _ _ hx
    | pan v => exact hQ _ _ hx
  | loop b =>
    refine hS.code _ _ _ _ _ ?_ hc
    intro x st' hx
    cases x with
    | nrm => exact hS.code _ _ _ _ _ hQ hx
    | exit i => exact hQ _ _ hx
    | ret => exact hQ _ _ hx
    | pan v => exact hQ _ _ hx
  | rfun g ps assign body =>
    dsimp only at hc ⊢
    obtain ⟨h1, h2, h3⟩ := hc
    refine ⟨h1, h2, callV_le hE hS _ _ _ _ _ ?_ h3⟩
    intro r h' hr
    cases r with
    | pan v => exact False.elim hr
    | ret v =>
      dsimp only at hr ⊢
      split at hr
      · rename_i e; (try simp only [e])
        split at hr
        · exact False.elim hr
        · exact hQ _ _ hr
        · exact hQ _ _ hr
      · exact False.elim hr
  | exit id => exact hQ _ _ hc
  | ret => exact hQ _ _ hc
  | refuse => exact False.elim hc

theorem leaveF_le {S S' : Sems} (hS : SLe S S') {fn : AFunc} {loc : List V} {R R' : Ret → H → Prop} (hR : Sub R R') :
    ∀ (ds : List (V × List V)) (pan : Option V) (h : H), leaveF S fn loc R ds pan h → leaveF S' fn loc R' ds pan h
  | [], some v, h, hc => hR _ _ hc
  | [], none, h, hc => by
    unfold leaveF at hc ⊢
    split at hc
    · rename_i e; (try simp only [e]); exact hR _ _ hc
    · exact False.elim hc
  | (f, args) :: ds, pan, h, hc => by
    cases f with
    | fn g a b =>
      cases g with
      | func g =>
        unfold leaveF at hc ⊢
        refine hS.frame _ _ _ _ _ _ ?_ hc
        intro r got h' hr
        cases r with
        | ret v => exact leaveF_le hS hR ds _ _ hr
        | pan v => exact False.elim hr
      | _ => unfold leaveF at hc; exact False.elim hc
    | _ => unfold leaveF at hc; exact False.elim hc

theorem frameF_le {E : Env} {S S' : Sems} (hS : SLe S S') (f : FuncId) (args : List V) (pd : Option (Option V)) (h : H) (R R' : Ret → Bool → H → Prop) (hR : Sub3 R R') (hc : frameF E S f args pd h R) : frameF E S' f args pd h R' := by
  unfold frameF at hc ⊢
  split at hc
  · exact False.elim hc
  · rename_i fn hf
    (try simp only [])
    refine ⟨hc.1, hS.code _ _ _ _ _ ?_ hc.2⟩
    intro x st hx
    refine ⟨hx.1, ?_⟩
    have h2 := hx.2
    cases x with
    | nrm => exact leaveF_le hS (fun r h hr => hR _ _ _ hr) _ _ _ h2
    | ret => exact leaveF_le hS (fun r h hr => hR _ _ _ hr) _ _ _ h2
    | pan v => exact leaveF_le hS (fun r h hr => hR _ _ _ hr) _ _ _ h2
    | exit i => exact False.elim h2

theorem sems_le {E : Env} (hE : ExtMono E) : ∀ k k', k ≤ k' → SLe (sems E k) (sems E k')
  | 0, _, _ => ⟨fun _ _ _ _ _ _ h => False.elim h, fun _ _ _ _ _ _ _ h => False.elim h⟩
  | k + 1, 0, h => absurd h (by omega)
  | k + 1, k' + 1, h => ⟨codeF_le hE (sems_le hE k k' (by omega)), frameF_le (sems_le hE k k' (by omega))⟩
end Go.Abs

namespace Go.Abs
variable {E : Env} {k : Nat} {cx : Cx} {CV : CVT} {loc : List V} {tl : List (Nat × V)} {df : List (V × List V)} {h : H} {K : V → St → Prop} {Q : X → St → Prop}

theorem nr {α : Sort _} {a b : α} (h : a = b) : a = b := h
theorem q_seq {a b : ACode} {st : St} : (sems E (k + 1)).code cx (.seq a b) st Q = (sems E k).code cx a st fun x st' => match x with | .nrm => (sems E k).code cx b st' Q | x => Q x st' := nr rfl
theorem q_region {ops : List AOper} : (sems E (k + 1)).code cx (.region ops) ⟨loc, tl, df, h⟩ Q = opsN (callV E (sems E k)) cx ops ⟨loc, [], df, h⟩ Q := nr rfl
theorem q_skip {st : St} : (sems E (k + 1)).code cx .skip st Q = Q .nrm st := nr rfl
theorem q_ret {st : St} : (sems E (k + 1)).code cx .ret st Q = Q .ret st := nr rfl
theorem q_exit {i : Nat} {st : St} : (sems E (k + 1)).code cx (.exit i) st Q = Q (.exit i) st := nr rfl
theorem q_cond {c : A} {a b : ACode} : (sems E (k + 1)).code cx (.cond c a b) ⟨loc, tl, df, h⟩ Q = (match evA loc tl c with | .bool t => (sems E k).code cx (if t then a else b) ⟨loc, [], df, h⟩ Q | _ => False) := nr rfl
theorem q_block {i : Nat} {b : ACode} {st : St} : (sems E (k + 1)).code cx (.block i b) st Q = (sems E k).code cx b st fun x st' => match x with | .exit j => if j = i then Q .nrm { st' with tl := [] } else Q (.exit j) st' | x => Q x st' := nr rfl
theorem q_nil {st : St} : opsN CV cx [] st Q = Q .nrm st := nr rfl
theorem q_cons {d : D} {op : AOp} {bf : Nat} {r : List AOper} {st : St} : opsN CV cx (⟨d, op, none, bf⟩ :: r) st Q = stepOp CV cx op st (fun v st' => opsN CV cx r (st'.put d v) Q) Q := nr rfl
theorem q_guard {d : D} {op : AOp} {bf : Nat} {a : A} {t : Bool} {r : List AOper} {st : St} : opsN CV cx (⟨d, op, some (a, t), bf⟩ :: r) st Q = (match wantedA st (some (a, t)) with | none => False | some false => opsN CV cx r (st.put d (.tup [])) Q | some true => stepOp CV cx op st (fun v st' => opsN CV cx r (st'.put d v) Q) Q) := nr rfl
theorem q_wanted {a : A} {t : Bool} : wantedA ⟨loc, tl, df, h⟩ (some (a, t)) = (match evA loc tl a with | .bool b => some (b == t) | .tup [] => some false | _ => none) := nr rfl
theorem q_putL {i : Nat} {v : V} : (⟨loc, tl, df, h⟩ : St).put (.l i) v = ⟨loc.set i v, tl, df, h⟩ := nr rfl
theorem q_putT {i : Nat} {v : V} : (⟨loc, tl, df, h⟩ : St).put (.t i) v = ⟨loc, (i, v) :: tl, df, h⟩ := nr rfl
theorem q_putN {v : V} : (⟨loc, tl, df, h⟩ : St).put .n v = ⟨loc, tl, df, h⟩ := nr rfl
theorem q_call {f : A} {args : List A} : stepOp CV cx (.call f args) ⟨loc, tl, df, h⟩ K Q = CV (evA loc tl f) (args.map (evA loc tl)) h fun r h' => match r with | .ret v => K v ⟨loc, tl, df, h'⟩ | .pan v => Q (.pan v) ⟨loc, tl, df, h'⟩ := nr rfl
theorem q_evl {i : Nat} : evA loc tl (.l i) = loc.getD i .bad := nr rfl
theorem q_evt {s t : Nat} {v : V} : evA loc ((s, v) :: tl) (.t t) = if s = t then v else evA loc tl (.t t) := nr rfl
theorem q_evc {v : V} : evA loc tl (.c v) = v := nr rfl
theorem q_evf {n : Nat} : evA loc tl (.f n) = .fn (.func n) [] [] := nr rfl
/-- what a step of a plain operation is -/
def runE (r : Option (V × H)) (loc : List V) (tl : List (Nat × V)) (df : List (V × List V)) (K : V → St → Prop) : Prop := match r with
  | some (v, h') => K v ⟨loc, tl, df, h'⟩
  | none => False
theorem q_some {v : V} {h' : H} : runE (some (v, h')) loc tl df K = K v ⟨loc, tl, df, h'⟩ := nr rfl
theorem q_mapsome {α β : Type} {f : α → β} {a : α} : (some a).map f = some (f a) := nr rfl
theorem q_mv (x : A) : stepOp CV cx (.mv x) ⟨loc, tl, df, h⟩ K Q = runE (evOp (.mv x) (evA loc tl) h) loc tl df K := nr rfl
theorem q_pick (c a b : A) : stepOp CV cx (.pick c a b) ⟨loc, tl, df, h⟩ K Q = runE (evOp (.pick c a b) (evA loc tl) h) loc tl df K := nr rfl
theorem q_alloc (z : List V) : stepOp CV cx (.alloc z) ⟨loc, tl, df, h⟩ K Q = runE (evOp (.alloc z) (evA loc tl) h) loc tl df K := nr rfl
theorem q_box (x : A) : stepOp CV cx (.box x) ⟨loc, tl, df, h⟩ K Q = runE (evOp (.box x) (evA loc tl) h) loc tl df K := nr rfl
theorem q_build (z : List V) (ps : List (Nat × Nat × A)) : stepOp CV cx (.build z ps) ⟨loc, tl, df, h⟩ K Q = runE (evOp (.build z ps) (evA loc tl) h) loc tl df K := nr rfl
theorem q_bslice (z : List V) (sz len : Nat) (ps : List (Nat × Nat × A)) : stepOp CV cx (.bslice z sz len ps) ⟨loc, tl, df, h⟩ K Q = runE (evOp (.bslice z sz len ps) (evA loc tl) h) loc tl df K := nr rfl
theorem q_load (g : Bool) (n : Nat) (x : A) : stepOp CV cx (.load g n x) ⟨loc, tl, df, h⟩ K Q = runE (evOp (.load g n x) (evA loc tl) h) loc tl df K := nr rfl
theorem q_store (n : Nat) (x v : A) : stepOp CV cx (.store n x v) ⟨loc, tl, df, h⟩ K Q = runE (evOp (.store n x v) (evA loc tl) h) loc tl df K := nr rfl
theorem q_nilck (x : A) : stepOp CV cx (.nilck x) ⟨loc, tl, df, h⟩ K Q = runE (evOp (.nilck x) (evA loc tl) h) loc tl df K := nr rfl
theorem q_bin (o : BinOp) (x y : A) : stepOp CV cx (.bin o x y) ⟨loc, tl, df, h⟩ K Q = runE (evOp (.bin o x y) (evA loc tl) h) loc tl df K := nr rfl
theorem q_eq (n : Bool) (d : EqD) (x y : A) : stepOp CV cx (.eq n d x y) ⟨loc, tl, df, h⟩ K Q = runE (evOp (.eq n d x y) (evA loc tl) h) loc tl df K := nr rfl
theorem q_eqnil (k : NK) (n : Bool) (x y : A) : stepOp CV cx (.eqnil k n x y) ⟨loc, tl, df, h⟩ K Q = runE (evOp (.eqnil k n x y) (evA loc tl) h) loc tl df K := nr rfl
theorem q_un (o : UnOp) (x : A) : stepOp CV cx (.un o x) ⟨loc, tl, df, h⟩ K Q = runE (evOp (.un o x) (evA loc tl) h) loc tl df K := nr rfl
theorem q_mkFn (f : Fn) (a b : List A) : stepOp CV cx (.mkFn f a b) ⟨loc, tl, df, h⟩ K Q = runE (evOp (.mkFn f a b) (evA loc tl) h) loc tl df K := nr rfl
theorem q_mkMap (r : Option A) : stepOp CV cx (.mkMap r) ⟨loc, tl, df, h⟩ K Q = runE (evOp (.mkMap r) (evA loc tl) h) loc tl df K := nr rfl
theorem q_faddr (o : Nat) (x : A) : stepOp CV cx (.faddr o x) ⟨loc, tl, df, h⟩ K Q = runE (evOp (.faddr o x) (evA loc tl) h) loc tl df K := nr rfl
theorem q_iaddr (sz : Nat) (x i : A) : stepOp CV cx (.iaddr sz x i) ⟨loc, tl, df, h⟩ K Q = runE (evOp (.iaddr sz x i) (evA loc tl) h) loc tl df K := nr rfl
theorem q_mput (d : EqD) (m k v : A) : stepOp CV cx (.mput d m k v) ⟨loc, tl, df, h⟩ K Q = runE (evOp (.mput d m k v) (evA loc tl) h) loc tl df K := nr rfl
theorem q_extract (x : A) (i : Nat) : stepOp CV cx (.extract x i) ⟨loc, tl, df, h⟩ K Q = runE (evOp (.extract x i) (evA loc tl) h) loc tl df K := nr rfl
theorem q_len (k : LK) (x : A) : stepOp CV cx (.len k x) ⟨loc, tl, df, h⟩ K Q = runE (evOp (.len k x) (evA loc tl) h) loc tl df K := nr rfl
theorem q_append (sz by' : Nat) (s x : A) : stepOp CV cx (.append sz by' s x) ⟨loc, tl, df, h⟩ K Q = runE (evOp (.append sz by' s x) (evA loc tl) h) loc tl df K := nr rfl
theorem q_entry (x : A) : stepOp CV cx (.entry x) ⟨loc, tl, df, h⟩ K Q = runE (evOp (.entry x) (evA loc tl) h) loc tl df K := nr rfl
theorem q_rngMap (x : A) : stepOp CV cx (.rngMap x) ⟨loc, tl, df, h⟩ K Q = runE (evOp (.rngMap x) (evA loc tl) h) loc tl df K := nr rfl

theorem b_tt : (true == true) = true := nr rfl
theorem b_tf : (true == false) = false := nr rfl
theorem b_ft : (false == true) = false := nr rfl
theorem b_ff : (false == false) = true := nr rfl
theorem b_lss {a b : Int} : binV .lss (.int .i64 a) (.int .i64 b) = some (.bool (decide (a < b))) := nr rfl
theorem b_gtr {a b : Int} : binV .gtr (.int .i64 a) (.int .i64 b) = some (.bool (decide (a > b))) := nr rfl
theorem b_add {a b : Int} : binV .add (.int .i64 a) (.int .i64 b) = some (.int .i64 (IntKind.wrap .i64 (a + b))) := nr rfl
theorem b_sub {a b : Int} : binV .sub (.int .i64 a) (.int .i64 b) = some (.int .i64 (IntKind.wrap .i64 (a - b))) := nr rfl
theorem b_eql {a b : Int} : binV .eql (.int .i64 a) (.int .i64 b) = some (.bool (a == b)) := nr rfl
theorem b_neq {a b : Int} : binV .neq (.int .i64 a) (.int .i64 b) = some (.bool (a != b)) := nr rfl
theorem u_not {b : Bool} : unV .not (.bool b) = some (.bool !b) := nr rfl
theorem c_int {t : IntKind} {n : Int} : V.cellOK (.int t n) = true := nr rfl
theorem c_str {l : List UInt8} : V.cellOK (.str l) = true := nr rfl
theorem c_bool {b : Bool} : V.cellOK (.bool b) = true := nr rfl
theorem c_nils : V.cellOK .nils = true := nr rfl
theorem c_sl {b o n : Nat} {c : Cap} : V.cellOK (.sl b o n c) = true := nr rfl
theorem c_ptr {b o : Nat} : V.cellOK (.ptr b o) = true := nr rfl
theorem c_map {b : Nat} : V.cellOK (.map b) = true := nr rfl
theorem p_agg {l : List V} : V.parts (.agg l) = some l := nr rfl
theorem p_int {t : IntKind} {n : Int} : V.parts (.int t n) = some [.int t n] := nr rfl
theorem p_str {l : List UInt8} : V.parts (.str l) = some [.str l] := nr rfl
theorem p_bool {b : Bool} : V.parts (.bool b) = some [.bool b] := nr rfl
theorem p_nils : V.parts .nils = some [.nils] := nr rfl
theorem p_sl {b o n : Nat} {c : Cap} : V.parts (.sl b o n c) = some [.sl b o n c] := nr rfl
theorem p_ptr {b o : Nat} : V.parts (.ptr b o) = some [.ptr b o] := nr rfl
theorem p_map {b : Nat} : V.parts (.map b) = some [.map b] := nr rfl
theorem p_ok {v : V} (hv : v.cellOK = true) : V.parts v = some [v] := by cases v <;> first | rfl | cases hv

/-! ### drawn regions -/
def runD (op : AOp) (i : Nat) (r : Option (V × H)) (loc : List V) (tl : List (Nat × V)) (df : List (V × List V)) (rs : List Rec) (K : List Rec → V → St → Prop) : Prop := match r with
  | some (v, h') => K (if isRead op then ⟨i, op, loc, tl, v⟩ :: rs else rs) v ⟨loc, tl, df, h'⟩
  | none => False
theorem d_some {op : AOp} {i : Nat} {v : V} {h' : H} {rs : List Rec} {K : List Rec → V → St → Prop} : runD op i (some (v, h')) loc tl df rs K = K (if isRead op then ⟨i, op, loc, tl, v⟩ :: rs else rs) v ⟨loc, tl, df, h'⟩ := nr rfl
theorem q_draw {ops : List (Nat × AOper)} : (sems E (k + 1)).code cx (.draw ops) ⟨loc, tl, df, h⟩ Q = opsD (callV E (sems E k)) cx ops ops [] ⟨loc, [], df, h⟩ Q := nr rfl
theorem d_nil {all : List (Nat × AOper)} {rs : List Rec} {st : St} : opsD CV cx all [] rs st Q = Q .nrm st := nr rfl
theorem d_eff {all : List (Nat × AOper)} {i : Nat} {d : D} {op : AOp} {bf : Nat} {r : List (Nat × AOper)} {rs : List Rec} {st : St} (he : isEff op = true) : opsD CV cx all ((i, ⟨d, op, none, bf⟩) :: r) rs st Q =
    stepOp CV cx op st (fun v st' => (rs.all fun q => bf.testBit q.i || q.again st'.h) = true ∧ opsD CV cx all r rs (st'.put d v) Q) (fun x st' => Q x { st' with loc := forget st.loc all, tl := [] }) := by
  conv => lhs; unfold opsD
  simp only [wantedA, he, if_true]
theorem d_val {all : List (Nat × AOper)} {i : Nat} {d : D} {op : AOp} {bf : Nat} {r : List (Nat × AOper)} {rs : List Rec} (he : isEff op = false) : opsD CV cx all ((i, ⟨d, op, none, bf⟩) :: r) rs ⟨loc, tl, df, h⟩ Q =
    runD op i (evOp op (evA loc tl) h) loc tl df rs fun rs v st' => opsD CV cx all r rs (st'.put d v) Q := by
  conv => lhs; unfold opsD
  simp only [wantedA, he, Bool.false_eq_true, if_false]
  unfold runD
  cases evOp op (evA loc tl) h with
  | none => rfl
  | some p => rfl
theorem d_guard {all : List (Nat × AOper)} {i : Nat} {d : D} {op : AOp} {bf : Nat} {a : A} {t : Bool} {r : List (Nat × AOper)} {rs : List Rec} (he : isEff op = false) : opsD CV cx all ((i, ⟨d, op, some (a, t), bf⟩) :: r) rs ⟨loc, tl, df, h⟩ Q =
    (match wantedA ⟨loc, tl, df, h⟩ (some (a, t)) with
    | none => False
    | some false => opsD CV cx all r rs (St.put ⟨loc, tl, df, h⟩ d (.tup [])) Q
    | some true => runD op i (evOp op (evA loc tl) h) loc tl df rs fun rs v st' => opsD CV cx all r rs (st'.put d v) Q) := by
  conv => lhs; unfold opsD
  simp only [he, Bool.false_eq_true, if_false]
  cases wantedA ⟨loc, tl, df, h⟩ (some (a, t)) with
  | none => rfl
  | some b =>
    cases b with
    | false => rfl
    | true =>
      unfold runD
      cases evOp op (evA loc tl) h with
      | none => rfl
      | some p => rfl
theorem e_mv (x : A) : isEff (.mv x) = false := nr rfl
theorem r_mv (x : A) : isRead (.mv x) = false := nr rfl
theorem e_pick (c a b : A) : isEff (.pick c a b) = false := nr rfl
theorem r_pick (c a b : A) : isRead (.pick c a b) = false := nr rfl
theorem e_alloc (z : List V) : isEff (.alloc z) = false := nr rfl
theorem r_alloc (z : List V) : isRead (.alloc z) = false := nr rfl
theorem e_box (x : A) : isEff (.box x) = false := nr rfl
theorem r_box (x : A) : isRead (.box x) = false := nr rfl
theorem e_build (z : List V) (ps : List (Nat × Nat × A)) : isEff (.build z ps) = false := nr rfl
theorem r_build (z : List V) (ps : List (Nat × Nat × A)) : isRead (.build z ps) = false := nr rfl
theorem e_bslice (z : List V) (sz len : Nat) (ps : List (Nat × Nat × A)) : isEff (.bslice z sz len ps) = false := nr rfl
theorem r_bslice (z : List V) (sz len : Nat) (ps : List (Nat × Nat × A)) : isRead (.bslice z sz len ps) = false := nr rfl
theorem e_load (g : Bool) (n : Nat) (x : A) : isEff (.load g n x) = false := nr rfl
theorem r_load (g : Bool) (n : Nat) (x : A) : isRead (.load g n x) = true := nr rfl
theorem e_store (n : Nat) (x v : A) : isEff (.store n x v) = true := nr rfl
theorem r_store (n : Nat) (x v : A) : isRead (.store n x v) = false := nr rfl
theorem e_nilck (x : A) : isEff (.nilck x) = false := nr rfl
theorem r_nilck (x : A) : isRead (.nilck x) = false := nr rfl
theorem e_bin (o : BinOp) (x y : A) : isEff (.bin o x y) = false := nr rfl
theorem r_bin (o : BinOp) (x y : A) : isRead (.bin o x y) = false := nr rfl
theorem e_eq (n : Bool) (d : EqD) (x y : A) : isEff (.eq n d x y) = false := nr rfl
theorem r_eq (n : Bool) (d : EqD) (x y : A) : isRead (.eq n d x y) = false := nr rfl
theorem e_eqnil (k : NK) (n : Bool) (x y : A) : isEff (.eqnil k n x y) = false := nr rfl
theorem r_eqnil (k : NK) (n : Bool) (x y : A) : isRead (.eqnil k n x y) = false := nr rfl
theorem e_un (o : UnOp) (x : A) : isEff (.un o x) = false := nr rfl
theorem r_un (o : UnOp) (x : A) : isRead (.un o x) = false := nr rfl
theorem e_mkFn (f : Fn) (a b : List A) : isEff (.mkFn f a b) = false := nr rfl
theorem r_mkFn (f : Fn) (a b : List A) : isRead (.mkFn f a b) = false := nr rfl
theorem e_mkMap (r : Option A) : isEff (.mkMap r) = false := nr rfl
theorem r_mkMap (r : Option A) : isRead (.mkMap r) = false := nr rfl
theorem e_faddr (o : Nat) (x : A) : isEff (.faddr o x) = false := nr rfl
theorem r_faddr (o : Nat) (x : A) : isRead (.faddr o x) = false := nr rfl
theorem e_iaddr (sz : Nat) (x i : A) : isEff (.iaddr sz x i) = false := nr rfl
theorem r_iaddr (sz : Nat) (x i : A) : isRead (.iaddr sz x i) = false := nr rfl
theorem e_mput (d : EqD) (m k v : A) : isEff (.mput d m k v) = true := nr rfl
theorem r_mput (d : EqD) (m k v : A) : isRead (.mput d m k v) = false := nr rfl
theorem e_extract (x : A) (i : Nat) : isEff (.extract x i) = false := nr rfl
theorem r_extract (x : A) (i : Nat) : isRead (.extract x i) = false := nr rfl
theorem e_len (k : LK) (x : A) : isEff (.len k x) = false := nr rfl
theorem r_len (k : LK) (x : A) : isRead (.len k x) = true := nr rfl
theorem e_append (sz by' : Nat) (s x : A) : isEff (.append sz by' s x) = true := nr rfl
theorem r_append (sz by' : Nat) (s x : A) : isRead (.append sz by' s x) = false := nr rfl
theorem e_entry (x : A) : isEff (.entry x) = false := nr rfl
theorem r_entry (x : A) : isRead (.entry x) = true := nr rfl
theorem e_rngMap (x : A) : isEff (.rngMap x) = true := nr rfl
theorem r_rngMap (x : A) : isRead (.rngMap x) = false := nr rfl
theorem e_call (f : A) (args : List A) : isEff (.call f args) = true := nr rfl
theorem r_call (f : A) (args : List A) : isRead (.call f args) = false := nr rfl

theorem d_cons {all : List (Nat × AOper)} {i : Nat} {d : D} {op : AOp} {bf : Nat} {r : List (Nat × AOper)} {rs : List Rec} : opsD CV cx all ((i, ⟨d, op, none, bf⟩) :: r) rs ⟨loc, tl, df, h⟩ Q =
    if isEff op = true then stepOp CV cx op ⟨loc, tl, df, h⟩ (fun v st' => (rs.all fun q => bf.testBit q.i || q.again st'.h) = true ∧ opsD CV cx all r rs (st'.put d v) Q) (fun x st' => Q x { st' with loc := forget loc all, tl := [] })
    else runD op i (evOp op (evA loc tl) h) loc tl df rs fun rs v st' => opsD CV cx all r rs (st'.put d v) Q := by
  by_cases he : isEff op = true
  · rw [if_pos he, d_eff he]
  · rw [if_neg he, d_val (Bool.eq_false_iff.2 he)]
theorem d_gcons {all : List (Nat × AOper)} {i : Nat} {d : D} {op : AOp} {bf : Nat} {a : A} {t : Bool} {r : List (Nat × AOper)} {rs : List Rec} : opsD CV cx all ((i, ⟨d, op, some (a, t), bf⟩) :: r) rs ⟨loc, tl, df, h⟩ Q =
    if isEff op = true then opsD CV cx all ((i, ⟨d, op, some (a, t), bf⟩) :: r) rs ⟨loc, tl, df, h⟩ Q else
    (match wantedA ⟨loc, tl, df, h⟩ (some (a, t)) with
    | none => False
    | some false => opsD CV cx all r rs (St.put ⟨loc, tl, df, h⟩ d (.tup [])) Q
    | some true => runD op i (evOp op (evA loc tl) h) loc tl df rs fun rs v st' => opsD CV cx all r rs (st'.put d v) Q) := by
  by_cases he : isEff op = true
  · rw [if_pos he]
  · rw [if_neg he, d_guard (Bool.eq_false_iff.2 he)]

mutual
theorem V.beq_refl : ∀ v : V, V.beq v v = true
  | .bad | .nilp | .nils | .nilm | .nilf | .nili => rfl
  | .bool b => by simp [V.beq]
  | .int .. => by simp [V.beq]
  | .str _ => by simp [V.beq]
  | .ptr .. => by simp [V.beq]
  | .sl .. => by simp [V.beq]
  | .map _ => by simp [V.beq]
  | .fn f a b => by simp [V.beq, V.beqs_refl a, V.beqs_refl b]
  | .iface t v => by simp [V.beq, V.beq_refl v]
  | .agg l => by simp [V.beq, V.beqs_refl l]
  | .tup l => by simp [V.beq, V.beqs_refl l]
theorem V.beqs_refl : ∀ l : List V, V.beqs l l = true
  | [] => rfl
  | a :: l => by simp [V.beqs, V.beq_refl a, V.beqs_refl l]
end


/-! ### without functions in sight: what is left is told as data -/
def seqK (E : Env) (k : Nat) (cx : Cx) (b : ACode) (Q : X → St → Prop) (x : X) (st : St) : Prop := match x with
  | .nrm => (sems E k).code cx b st Q
  | x => Q x st
def blockK (i : Nat) (Q : X → St → Prop) (x : X) (st : St) : Prop := match x with
  | .exit j => if j = i then Q .nrm { st with tl := [] } else Q (.exit j) st
  | x => Q x st
def contE (r : Option (V × H)) (CV : CVT) (cx : Cx) (d : D) (l : List AOper) (loc : List V) (tl : List (Nat × V)) (df : List (V × List V)) (Q : X → St → Prop) : Prop := match r with
  | some (v, h') => opsN CV cx l (St.put ⟨loc, tl, df, h'⟩ d v) Q
  | none => False
def guardE (g : Option Bool) (r : Option (V × H)) (CV : CVT) (cx : Cx) (d : D) (l : List AOper) (loc : List V) (tl : List (Nat × V)) (df : List (V × List V)) (h : H) (Q : X → St → Prop) : Prop := match g with
  | none => False
  | some false => opsN CV cx l (St.put ⟨loc, tl, df, h⟩ d (.tup [])) Q
  | some true => contE r CV cx d l loc tl df Q
def contD (r : Option (V × H)) (CV : CVT) (cx : Cx) (all : List (Nat × AOper)) (i : Nat) (d : D) (op : AOp) (l : List (Nat × AOper)) (rs : List Rec) (loc : List V) (tl : List (Nat × V)) (df : List (V × List V)) (Q : X → St → Prop) : Prop := match r with
  | some (v, h') => opsD CV cx all l (if isRead op then ⟨i, op, loc, tl, v⟩ :: rs else rs) (St.put ⟨loc, tl, df, h'⟩ d v) Q
  | none => False
def guardD (g : Option Bool) (r : Option (V × H)) (CV : CVT) (cx : Cx) (all : List (Nat × AOper)) (i : Nat) (d : D) (op : AOp) (l : List (Nat × AOper)) (rs : List Rec) (loc : List V) (tl : List (Nat × V)) (df : List (V × List V)) (h : H) (Q : X → St → Prop) : Prop := match g with
  | none => False
  | some false => opsD CV cx all l rs (St.put ⟨loc, tl, df, h⟩ d (.tup [])) Q
  | some true => contD r CV cx all i d op l rs loc tl df Q
/-- behind an effect in a drawn region -/
def contF (r : Option (V × H)) (CV : CVT) (cx : Cx) (all : List (Nat × AOper)) (bf : Nat) (d : D) (l : List (Nat × AOper)) (rs : List Rec) (loc : List V) (tl : List (Nat × V)) (df : List (V × List V)) (Q : X → St → Prop) : Prop := match r with
  | some (v, h') => (rs.all fun q => bf.testBit q.i || q.again h') = true ∧ opsD CV cx all l rs (St.put ⟨loc, tl, df, h'⟩ d v) Q
  | none => False
section
variable {l : List AOper} {ld all : List (Nat × AOper)} {rs : List Rec} {d : D} {bf i : Nat} {a b : ACode} {st : St} {op : AOp} {v : V} {g : A} {t : Bool} {r : Option (V × H)}
theorem z_seq : (sems E (k + 1)).code cx (.seq a b) st Q = (sems E k).code cx a st (seqK E k cx b Q) := nr (by
  show (sems E k).code cx a st _ = (sems E k).code cx a st _
  congr 1)
theorem z_block : (sems E (k + 1)).code cx (.block i b) st Q = (sems E k).code cx b st (blockK i Q) := nr (by
  show (sems E k).code cx b st _ = (sems E k).code cx b st _
  congr 1)
theorem z_snrm : seqK E k cx b Q .nrm st = (sems E k).code cx b st Q := nr rfl
theorem z_sret : seqK E k cx b Q .ret st = Q .ret st := nr rfl
theorem z_sexit : seqK E k cx b Q (.exit i) st = Q (.exit i) st := nr rfl
theorem z_span : seqK E k cx b Q (.pan v) st = Q (.pan v) st := nr rfl
theorem z_bnrm : blockK i Q .nrm st = Q .nrm st := nr rfl
theorem z_bret : blockK i Q .ret st = Q .ret st := nr rfl
theorem z_bexit {j : Nat} : blockK i Q (.exit j) ⟨loc, tl, df, h⟩ = if j = i then Q .nrm ⟨loc, [], df, h⟩ else Q (.exit j) ⟨loc, tl, df, h⟩ := nr rfl
theorem z_bpan : blockK i Q (.pan v) st = Q (.pan v) st := nr rfl
theorem z_some : contE (some (v, h)) CV cx d l loc tl df Q = opsN CV cx l (St.put ⟨loc, tl, df, h⟩ d v) Q := nr rfl
theorem z_gtrue : guardE (some true) r CV cx d l loc tl df h Q = contE r CV cx d l loc tl df Q := nr rfl
theorem z_gfalse : guardE (some false) r CV cx d l loc tl df h Q = opsN CV cx l (St.put ⟨loc, tl, df, h⟩ d (.tup [])) Q := nr rfl
theorem z_dsome : contD (some (v, h)) CV cx all i d op ld rs loc tl df Q = opsD CV cx all ld (if isRead op then ⟨i, op, loc, tl, v⟩ :: rs else rs) (St.put ⟨loc, tl, df, h⟩ d v) Q := nr rfl
theorem z_dgtrue : guardD (some true) r CV cx all i d op ld rs loc tl df h Q = contD r CV cx all i d op ld rs loc tl df Q := nr rfl
theorem z_dgfalse : guardD (some false) r CV cx all i d op ld rs loc tl df h Q = opsD CV cx all ld rs (St.put ⟨loc, tl, df, h⟩ d (.tup [])) Q := nr rfl
theorem z_fsome : contF (some (v, h)) CV cx all bf d ld rs loc tl df Q = ((rs.all fun q => bf.testBit q.i || q.again h) = true ∧ opsD CV cx all ld rs (St.put ⟨loc, tl, df, h⟩ d v) Q) := nr rfl
theorem z_call {f : A} {args : List A} : opsN CV cx (⟨d, .call f args, none, bf⟩ :: l) ⟨loc, tl, df, h⟩ Q = CV (evA loc tl f) (args.map (evA loc tl)) h fun r h' => match r with | .ret v => opsN CV cx l (St.put ⟨loc, tl, df, h'⟩ d v) Q | .pan v => Q (.pan v) ⟨loc, tl, df, h'⟩ := nr rfl
theorem z_gcall {f : A} {args : List A} : opsN CV cx (⟨d, .call f args, some (g, t), bf⟩ :: l) ⟨loc, tl, df, h⟩ Q = (match wantedA ⟨loc, tl, df, h⟩ (some (g, t)) with
    | none => False
    | some false => opsN CV cx l (St.put ⟨loc, tl, df, h⟩ d (.tup [])) Q
    | some true => CV (evA loc tl f) (args.map (evA loc tl)) h fun r h' => match r with | .ret v => opsN CV cx l (St.put ⟨loc, tl, df, h'⟩ d v) Q | .pan v => Q (.pan v) ⟨loc, tl, df, h'⟩) := nr rfl
theorem z_dcall {f : A} {args : List A} : opsD CV cx all ((i, ⟨d, .call f args, none, bf⟩) :: ld) rs ⟨loc, tl, df, h⟩ Q = CV (evA loc tl f) (args.map (evA loc tl)) h fun r h' => match r with
    | .ret v => ((rs.all fun q => bf.testBit q.i || q.again h') = true ∧ opsD CV cx all ld rs (St.put ⟨loc, tl, df, h'⟩ d v) Q)
    | .pan v => Q (.pan v) ⟨forget loc all, [], df, h'⟩ := nr (d_eff rfl)
theorem z_mv (x1 : A) : opsN CV cx (⟨d, .mv x1, none, bf⟩ :: l) ⟨loc, tl, df, h⟩ Q = contE (evOp (.mv x1) (evA loc tl) h) CV cx d l loc tl df Q := nr rfl
theorem zg_mv (x1 : A) : opsN CV cx (⟨d, .mv x1, some (g, t), bf⟩ :: l) ⟨loc, tl, df, h⟩ Q = guardE (wantedA ⟨loc, tl, df, h⟩ (some (g, t))) (evOp (.mv x1) (evA loc tl) h) CV cx d l loc tl df h Q := nr rfl
theorem zd_mv (x1 : A) : opsD CV cx all ((i, ⟨d, .mv x1, none, bf⟩) :: ld) rs ⟨loc, tl, df, h⟩ Q = contD (evOp (.mv x1) (evA loc tl) h) CV cx all i d (.mv x1) ld rs loc tl df Q := nr (d_val rfl)
theorem zh_mv (x1 : A) : opsD CV cx all ((i, ⟨d, .mv x1, some (g, t), bf⟩) :: ld) rs ⟨loc, tl, df, h⟩ Q = guardD (wantedA ⟨loc, tl, df, h⟩ (some (g, t))) (evOp (.mv x1) (evA loc tl) h) CV cx all i d (.mv x1) ld rs loc tl df h Q := nr (d_guard rfl)
theorem z_pick (c1 a1 b1 : A) : opsN CV cx (⟨d, .pick c1 a1 b1, none, bf⟩ :: l) ⟨loc, tl, df, h⟩ Q = contE (evOp (.pick c1 a1 b1) (evA loc tl) h) CV cx d l loc tl df Q := nr rfl
theorem zg_pick (c1 a1 b1 : A) : opsN CV cx (⟨d, .pick c1 a1 b1, some (g, t), bf⟩ :: l) ⟨loc, tl, df, h⟩ Q = guardE (wantedA ⟨loc, tl, df, h⟩ (some (g, t))) (evOp (.pick c1 a1 b1) (evA loc tl) h) CV cx d l loc tl df h Q := nr rfl
theorem zd_pick (c1 a1 b1 : A) : opsD CV cx all ((i, ⟨d, .pick c1 a1 b1, none, bf⟩) :: ld) rs ⟨loc, tl, df, h⟩ Q = contD (evOp (.pick c1 a1 b1) (evA loc tl) h) CV cx all i d (.pick c1 a1 b1) ld rs loc tl df Q := nr (d_val rfl)
theorem zh_pick (c1 a1 b1 : A) : opsD CV cx all ((i, ⟨d, .pick c1 a1 b1, some (g, t), bf⟩) :: ld) rs ⟨loc, tl, df, h⟩ Q = guardD (wantedA ⟨loc, tl, df, h⟩ (some (g, t))) (evOp (.pick c1 a1 b1) (evA loc tl) h) CV cx all i d (.pick c1 a1 b1) ld rs loc tl df h Q := nr (d_guard rfl)
theorem z_alloc (z1 : List V) : opsN CV cx (⟨d, .alloc z1, none, bf⟩ :: l) ⟨loc, tl, df, h⟩ Q = contE (evOp (.alloc z1) (evA loc tl) h) CV cx d l loc tl df Q := nr rfl
theorem zg_alloc (z1 : List V) : opsN CV cx (⟨d, .alloc z1, some (g, t), bf⟩ :: l) ⟨loc, tl, df, h⟩ Q = guardE (wantedA ⟨loc, tl, df, h⟩ (some (g, t))) (evOp (.alloc z1) (evA loc tl) h) CV cx d l loc tl df h Q := nr rfl
theorem zd_alloc (z1 : List V) : opsD CV cx all ((i, ⟨d, .alloc z1, none, bf⟩) :: ld) rs ⟨loc, tl, df, h⟩ Q = contD (evOp (.alloc z1) (evA loc tl) h) CV cx all i d (.alloc z1) ld rs loc tl df Q := nr (d_val rfl)
theorem zh_alloc (z1 : List V) : opsD CV cx all ((i, ⟨d, .alloc z1, some (g, t), bf⟩) :: ld) rs ⟨loc, tl, df, h⟩ Q = guardD (wantedA ⟨loc, tl, df, h⟩ (some (g, t))) (evOp (.alloc z1) (evA loc tl) h) CV cx all i d (.alloc z1) ld rs loc tl df h Q := nr (d_guard rfl)
theorem z_box (x1 : A) : opsN CV cx (⟨d, .box x1, none, bf⟩ :: l) ⟨loc, tl, df, h⟩ Q = contE (evOp (.box x1) (evA loc tl) h) CV cx d l loc tl df Q := nr rfl
theorem zg_box (x1 : A) : opsN CV cx (⟨d, .box x1, some (g, t), bf⟩ :: l) ⟨loc, tl, df, h⟩ Q = guardE (wantedA ⟨loc, tl, df, h⟩ (some (g, t))) (evOp (.box x1) (evA loc tl) h) CV cx d l loc tl df h Q := nr rfl
theorem zd_box (x1 : A) : opsD CV cx all ((i, ⟨d, .box x1, none, bf⟩) :: ld) rs ⟨loc, tl, df, h⟩ Q = contD (evOp (.box x1) (evA loc tl) h) CV cx all i d (.box x1) ld rs loc tl df Q := nr (d_val rfl)
theorem zh_box (x1 : A) : opsD CV cx all ((i, ⟨d, .box x1, some (g, t), bf⟩) :: ld) rs ⟨loc, tl, df, h⟩ Q = guardD (wantedA ⟨loc, tl, df, h⟩ (some (g, t))) (evOp (.box x1) (evA loc tl) h) CV cx all i d (.box x1) ld rs loc tl df h Q := nr (d_guard rfl)
theorem z_build (z1 : List V) (ps1 : List (Nat × Nat × A)) : opsN CV cx (⟨d, .build z1 ps1, none, bf⟩ :: l) ⟨loc, tl, df, h⟩ Q = contE (evOp (.build z1 ps1) (evA loc tl) h) CV cx d l loc tl df Q := nr rfl
theorem zg_build (z1 : List V) (ps1 : List (Nat × Nat × A)) : opsN CV cx (⟨d, .build z1 ps1, some (g, t), bf⟩ :: l) ⟨loc, tl, df, h⟩ Q = guardE (wantedA ⟨loc, tl, df, h⟩ (some (g, t))) (evOp (.build z1 ps1) (evA loc tl) h) CV cx d l loc tl df h Q := nr rfl
theorem zd_build (z1 : List V) (ps1 : List (Nat × Nat × A)) : opsD CV cx all ((i, ⟨d, .build z1 ps1, none, bf⟩) :: ld) rs ⟨loc, tl, df, h⟩ Q = contD (evOp (.build z1 ps1) (evA loc tl) h) CV cx all i d (.build z1 ps1) ld rs loc tl df Q := nr (d_val rfl)
theorem zh_build (z1 : List V) (ps1 : List (Nat × Nat × A)) : opsD CV cx all ((i, ⟨d, .build z1 ps1, some (g, t), bf⟩) :: ld) rs ⟨loc, tl, df, h⟩ Q = guardD (wantedA ⟨loc, tl, df, h⟩ (some (g, t))) (evOp (.build z1 ps1) (evA loc tl) h) CV cx all i d (.build z1 ps1) ld rs loc tl df h Q := nr (d_guard rfl)
theorem z_bslice (z1 : List V) (sz1 len1 : Nat) (ps1 : List (Nat × Nat × A)) : opsN CV cx (⟨d, .bslice z1 sz1 len1 ps1, none, bf⟩ :: l) ⟨loc, tl, df, h⟩ Q = contE (evOp (.bslice z1 sz1 len1 ps1) (evA loc tl) h) CV cx d l loc tl df Q := nr rfl
theorem zg_bslice (z1 : List V) (sz1 len1 : Nat) (ps1 : List (Nat × Nat × A)) : opsN CV cx (⟨d, .bslice z1 sz1 len1 ps1, some (g, t), bf⟩ :: l) ⟨loc, tl, df, h⟩ Q = guardE (wantedA ⟨loc, tl, df, h⟩ (some (g, t))) (evOp (.bslice z1 sz1 len1 ps1) (evA loc tl) h) CV cx d l loc tl df h Q := nr rfl
theorem zd_bslice (z1 : List V) (sz1 len1 : Nat) (ps1 : List (Nat × Nat × A)) : opsD CV cx all ((i, ⟨d, .bslice z1 sz1 len1 ps1, none, bf⟩) :: ld) rs ⟨loc, tl, df, h⟩ Q = contD (evOp (.bslice z1 sz1 len1 ps1) (evA loc tl) h) CV cx all i d (.bslice z1 sz1 len1 ps1) ld rs loc tl df Q := nr (d_val rfl)
theorem zh_bslice (z1 : List V) (sz1 len1 : Nat) (ps1 : List (Nat × Nat × A)) : opsD CV cx all ((i, ⟨d, .bslice z1 sz1 len1 ps1, some (g, t), bf⟩) :: ld) rs ⟨loc, tl, df, h⟩ Q = guardD (wantedA ⟨loc, tl, df, h⟩ (some (g, t))) (evOp (.bslice z1 sz1 len1 ps1) (evA loc tl) h) CV cx all i d (.bslice z1 sz1 len1 ps1) ld rs loc tl df h Q := nr (d_guard rfl)
theorem z_load (g1 : Bool) (n1 : Nat) (x1 : A) : opsN CV cx (⟨d, .load g1 n1 x1, none, bf⟩ :: l) ⟨loc, tl, df, h⟩ Q = contE (evOp (.load g1 n1 x1) (evA loc tl) h) CV cx d l loc tl df Q := nr rfl
theorem zg_load (g1 : Bool) (n1 : Nat) (x1 : A) : opsN CV cx (⟨d, .load g1 n1 x1, some (g, t), bf⟩ :: l) ⟨loc, tl, df, h⟩ Q = guardE (wantedA ⟨loc, tl, df, h⟩ (some (g, t))) (evOp (.load g1 n1 x1) (evA loc tl) h) CV cx d l loc tl df h Q := nr rfl
theorem zd_load (g1 : Bool) (n1 : Nat) (x1 : A) : opsD CV cx all ((i, ⟨d, .load g1 n1 x1, none, bf⟩) :: ld) rs ⟨loc, tl, df, h⟩ Q = contD (evOp (.load g1 n1 x1) (evA loc tl) h) CV cx all i d (.load g1 n1 x1) ld rs loc tl df Q := nr (d_val rfl)
theorem zh_load (g1 : Bool) (n1 : Nat) (x1 : A) : opsD CV cx all ((i, ⟨d, .load g1 n1 x1, some (g, t), bf⟩) :: ld) rs ⟨loc, tl, df, h⟩ Q = guardD (wantedA ⟨loc, tl, df, h⟩ (some (g, t))) (evOp (.load g1 n1 x1) (evA loc tl) h) CV cx all i d (.load g1 n1 x1) ld rs loc tl df h Q := nr (d_guard rfl)
theorem z_store (n1 : Nat) (x1 v1 : A) : opsN CV cx (⟨d, .store n1 x1 v1, none, bf⟩ :: l) ⟨loc, tl, df, h⟩ Q = contE (evOp (.store n1 x1 v1) (evA loc tl) h) CV cx d l loc tl df Q := nr rfl
theorem zg_store (n1 : Nat) (x1 v1 : A) : opsN CV cx (⟨d, .store n1 x1 v1, some (g, t), bf⟩ :: l) ⟨loc, tl, df, h⟩ Q = guardE (wantedA ⟨loc, tl, df, h⟩ (some (g, t))) (evOp (.store n1 x1 v1) (evA loc tl) h) CV cx d l loc tl df h Q := nr rfl
theorem zd_store (n1 : Nat) (x1 v1 : A) : opsD CV cx all ((i, ⟨d, .store n1 x1 v1, none, bf⟩) :: ld) rs ⟨loc, tl, df, h⟩ Q = contF (evOp (.store n1 x1 v1) (evA loc tl) h) CV cx all bf d ld rs loc tl df Q := nr (d_eff rfl)
theorem z_nilck (x1 : A) : opsN CV cx (⟨d, .nilck x1, none, bf⟩ :: l) ⟨loc, tl, df, h⟩ Q = contE (evOp (.nilck x1) (evA loc tl) h) CV cx d l loc tl df Q := nr rfl
theorem zg_nilck (x1 : A) : opsN CV cx (⟨d, .nilck x1, some (g, t), bf⟩ :: l) ⟨loc, tl, df, h⟩ Q = guardE (wantedA ⟨loc, tl, df, h⟩ (some (g, t))) (evOp (.nilck x1) (evA loc tl) h) CV cx d l loc tl df h Q := nr rfl
theorem zd_nilck (x1 : A) : opsD CV cx all ((i, ⟨d, .nilck x1, none, bf⟩) :: ld) rs ⟨loc, tl, df, h⟩ Q = contD (evOp (.nilck x1) (evA loc tl) h) CV cx all i d (.nilck x1) ld rs loc tl df Q := nr (d_val rfl)
theorem zh_nilck (x1 : A) : opsD CV cx all ((i, ⟨d, .nilck x1, some (g, t), bf⟩) :: ld) rs ⟨loc, tl, df, h⟩ Q = guardD (wantedA ⟨loc, tl, df, h⟩ (some (g, t))) (evOp (.nilck x1) (evA loc tl) h) CV cx all i d (.nilck x1) ld rs loc tl df h Q := nr (d_guard rfl)
theorem z_bin (o1 : BinOp) (x1 y1 : A) : opsN CV cx (⟨d, .bin o1 x1 y1, none, bf⟩ :: l) ⟨loc, tl, df, h⟩ Q = contE (evOp (.bin o1 x1 y1) (evA loc tl) h) CV cx d l loc tl df Q := nr rfl
theorem zg_bin (o1 : BinOp) (x1 y1 : A) : opsN CV cx (⟨d, .bin o1 x1 y1, some (g, t), bf⟩ :: l) ⟨loc, tl, df, h⟩ Q = guardE (wantedA ⟨loc, tl, df, h⟩ (some (g, t))) (evOp (.bin o1 x1 y1) (evA loc tl) h) CV cx d l loc tl df h Q := nr rfl
theorem zd_bin (o1 : BinOp) (x1 y1 : A) : opsD CV cx all ((i, ⟨d, .bin o1 x1 y1, none, bf⟩) :: ld) rs ⟨loc, tl, df, h⟩ Q = contD (evOp (.bin o1 x1 y1) (evA loc tl) h) CV cx all i d (.bin o1 x1 y1) ld rs loc tl df Q := nr (d_val rfl)
theorem zh_bin (o1 : BinOp) (x1 y1 : A) : opsD CV cx all ((i, ⟨d, .bin o1 x1 y1, some (g, t), bf⟩) :: ld) rs ⟨loc, tl, df, h⟩ Q = guardD (wantedA ⟨loc, tl, df, h⟩ (some (g, t))) (evOp (.bin o1 x1 y1) (evA loc tl) h) CV cx all i d (.bin o1 x1 y1) ld rs loc tl df h Q := nr (d_guard rfl)
theorem z_eq (n1 : Bool) (d1 : EqD) (x1 y1 : A) : opsN CV cx (⟨d, .eq n1 d1 x1 y1, none, bf⟩ :: l) ⟨loc, tl, df, h⟩ Q = contE (evOp (.eq n1 d1 x1 y1) (evA loc tl) h) CV cx d l loc tl df Q := nr rfl
theorem zg_eq (n1 : Bool) (d1 : EqD) (x1 y1 : A) : opsN CV cx (⟨d, .eq n1 d1 x1 y1, some (g, t), bf⟩ :: l) ⟨loc, tl, df, h⟩ Q = guardE (wantedA ⟨loc, tl, df, h⟩ (some (g, t))) (evOp (.eq n1 d1 x1 y1) (evA loc tl) h) CV cx d l loc tl df h Q := nr rfl
theorem zd_eq (n1 : Bool) (d1 : EqD) (x1 y1 : A) : opsD CV cx all ((i, ⟨d, .eq n1 d1 x1 y1, none, bf⟩) :: ld) rs ⟨loc, tl, df, h⟩ Q = contD (evOp (.eq n1 d1 x1 y1) (evA loc tl) h) CV cx all i d (.eq n1 d1 x1 y1) ld rs loc tl df Q := nr (d_val rfl)
theorem zh_eq (n1 : Bool) (d1 : EqD) (x1 y1 : A) : opsD CV cx all ((i, ⟨d, .eq n1 d1 x1 y1, some (g, t), bf⟩) :: ld) rs ⟨loc, tl, df, h⟩ Q = guardD (wantedA ⟨loc, tl, df, h⟩ (some (g, t))) (evOp (.eq n1 d1 x1 y1) (evA loc tl) h) CV cx all i d (.eq n1 d1 x1 y1) ld rs loc tl df h Q := nr (d_guard rfl)
theorem z_eqnil (k1 : NK) (n1 : Bool) (x1 y1 : A) : opsN CV cx (⟨d, .eqnil k1 n1 x1 y1, none, bf⟩ :: l) ⟨loc, tl, df, h⟩ Q = contE (evOp (.eqnil k1 n1 x1 y1) (evA loc tl) h) CV cx d l loc tl df Q := nr rfl
theorem zg_eqnil (k1 : NK) (n1 : Bool) (x1 y1 : A) : opsN CV cx (⟨d, .eqnil k1 n1 x1 y1, some (g, t), bf⟩ :: l) ⟨loc, tl, df, h⟩ Q = guardE (wantedA ⟨loc, tl, df, h⟩ (some (g, t))) (evOp (.eqnil k1 n1 x1 y1) (evA loc tl) h) CV cx d l loc tl df h Q := nr rfl
theorem zd_eqnil (k1 : NK) (n1 : Bool) (x1 y1 : A) : opsD CV cx all ((i, ⟨d, .eqnil k1 n1 x1 y1, none, bf⟩) :: ld) rs ⟨loc, tl, df, h⟩ Q = contD (evOp (.eqnil k1 n1 x1 y1) (evA loc tl) h) CV cx all i d (.eqnil k1 n1 x1 y1) ld rs loc tl df Q := nr (d_val rfl)
theorem zh_eqnil (k1 : NK) (n1 : Bool) (x1 y1 : A) : opsD CV cx all ((i, ⟨d, .eqnil k1 n1 x1 y1, some (g, t), bf⟩) :: ld) rs ⟨loc, tl, df, h⟩ Q = guardD (wantedA ⟨loc, tl, df, h⟩ (some (g, t))) (evOp (.eqnil k1 n1 x1 y1) (evA loc tl) h) CV cx all i d (.eqnil k1 n1 x1 y1) ld rs loc tl df h Q := nr (d_guard rfl)
theorem z_un (o1 : UnOp) (x1 : A) : opsN CV cx (⟨d, .un o1 x1, none, bf⟩ :: l) ⟨loc, tl, df, h⟩ Q = contE (evOp (.un o1 x1) (evA loc tl) h) CV cx d l loc tl df Q := nr rfl
theorem zg_un (o1 : UnOp) (x1 : A) : opsN CV cx (⟨d, .un o1 x1, some (g, t), bf⟩ :: l) ⟨loc, tl, df, h⟩ Q = guardE (wantedA ⟨loc, tl, df, h⟩ (some (g, t))) (evOp (.un o1 x1) (evA loc tl) h) CV cx d l loc tl df h Q := nr rfl
theorem zd_un (o1 : UnOp) (x1 : A) : opsD CV cx all ((i, ⟨d, .un o1 x1, none, bf⟩) :: ld) rs ⟨loc, tl, df, h⟩ Q = contD (evOp (.un o1 x1) (evA loc tl) h) CV cx all i d (.un o1 x1) ld rs loc tl df Q := nr (d_val rfl)
theorem zh_un (o1 : UnOp) (x1 : A) : opsD CV cx all ((i, ⟨d, .un o1 x1, some (g, t), bf⟩) :: ld) rs ⟨loc, tl, df, h⟩ Q = guardD (wantedA ⟨loc, tl, df, h⟩ (some (g, t))) (evOp (.un o1 x1) (evA loc tl) h) CV cx all i d (.un o1 x1) ld rs loc tl df h Q := nr (d_guard rfl)
theorem z_mkFn (f1 : Fn) (a1 b1 : List A) : opsN CV cx (⟨d, .mkFn f1 a1 b1, none, bf⟩ :: l) ⟨loc, tl, df, h⟩ Q = contE (evOp (.mkFn f1 a1 b1) (evA loc tl) h) CV cx d l loc tl df Q := nr rfl
theorem zg_mkFn (f1 : Fn) (a1 b1 : List A) : opsN CV cx (⟨d, .mkFn f1 a1 b1, some (g, t), bf⟩ :: l) ⟨loc, tl, df, h⟩ Q = guardE (wantedA ⟨loc, tl, df, h⟩ (some (g, t))) (evOp (.mkFn f1 a1 b1) (evA loc tl) h) CV cx d l loc tl df h Q := nr rfl
theorem zd_mkFn (f1 : Fn) (a1 b1 : List A) : opsD CV cx all ((i, ⟨d, .mkFn f1 a1 b1, none, bf⟩) :: ld) rs ⟨loc, tl, df, h⟩ Q = contD (evOp (.mkFn f1 a1 b1) (evA loc tl) h) CV cx all i d (.mkFn f1 a1 b1) ld rs loc tl df Q := nr (d_val rfl)
theorem zh_mkFn (f1 : Fn) (a1 b1 : List A) : opsD CV cx all ((i, ⟨d, .mkFn f1 a1 b1, some (g, t), bf⟩) :: ld) rs ⟨loc, tl, df, h⟩ Q = guardD (wantedA ⟨loc, tl, df, h⟩ (some (g, t))) (evOp (.mkFn f1 a1 b1) (evA loc tl) h) CV cx all i d (.mkFn f1 a1 b1) ld rs loc tl df h Q := nr (d_guard rfl)
theorem z_mkMap (r1 : Option A) : opsN CV cx (⟨d, .mkMap r1, none, bf⟩ :: l) ⟨loc, tl, df, h⟩ Q = contE (evOp (.mkMap r1) (evA loc tl) h) CV cx d l loc tl df Q := nr rfl
theorem zg_mkMap (r1 : Option A) : opsN CV cx (⟨d, .mkMap r1, some (g, t), bf⟩ :: l) ⟨loc, tl, df, h⟩ Q = guardE (wantedA ⟨loc, tl, df, h⟩ (some (g, t))) (evOp (.mkMap r1) (evA loc tl) h) CV cx d l loc tl df h Q := nr rfl
theorem zd_mkMap (r1 : Option A) : opsD CV cx all ((i, ⟨d, .mkMap r1, none, bf⟩) :: ld) rs ⟨loc, tl, df, h⟩ Q = contD (evOp (.mkMap r1) (evA loc tl) h) CV cx all i d (.mkMap r1) ld rs loc tl df Q := nr (d_val rfl)
theorem zh_mkMap (r1 : Option A) : opsD CV cx all ((i, ⟨d, .mkMap r1, some (g, t), bf⟩) :: ld) rs ⟨loc, tl, df, h⟩ Q = guardD (wantedA ⟨loc, tl, df, h⟩ (some (g, t))) (evOp (.mkMap r1) (evA loc tl) h) CV cx all i d (.mkMap r1) ld rs loc tl df h Q := nr (d_guard rfl)
theorem z_faddr (o1 : Nat) (x1 : A) : opsN CV cx (⟨d, .faddr o1 x1, none, bf⟩ :: l) ⟨loc, tl, df, h⟩ Q = contE (evOp (.faddr o1 x1) (evA loc tl) h) CV cx d l loc tl df Q := nr rfl
theorem zg_faddr (o1 : Nat) (x1 : A) : opsN CV cx (⟨d, .faddr o1 x1, some (g, t), bf⟩ :: l) ⟨loc, tl, df, h⟩ Q = guardE (wantedA ⟨loc, tl, df, h⟩ (some (g, t))) (evOp (.faddr o1 x1) (evA loc tl) h) CV cx d l loc tl df h Q := nr rfl
theorem zd_faddr (o1 : Nat) (x1 : A) : opsD CV cx all ((i, ⟨d, .faddr o1 x1, none, bf⟩) :: ld) rs ⟨loc, tl, df, h⟩ Q = contD (evOp (.faddr o1 x1) (evA loc tl) h) CV cx all i d (.faddr o1 x1) ld rs loc tl df Q := nr (d_val rfl)
theorem zh_faddr (o1 : Nat) (x1 : A) : opsD CV cx all ((i, ⟨d, .faddr o1 x1, some (g, t), bf⟩) :: ld) rs ⟨loc, tl, df, h⟩ Q = guardD (wantedA ⟨loc, tl, df, h⟩ (some (g, t))) (evOp (.faddr o1 x1) (evA loc tl) h) CV cx all i d (.faddr o1 x1) ld rs loc tl df h Q := nr (d_guard rfl)
theorem z_iaddr (sz1 : Nat) (x1 i1 : A) : opsN CV cx (⟨d, .iaddr sz1 x1 i1, none, bf⟩ :: l) ⟨loc, tl, df, h⟩ Q = contE (evOp (.iaddr sz1 x1 i1) (evA loc tl) h) CV cx d l loc tl df Q := nr rfl
theorem zg_iaddr (sz1 : Nat) (x1 i1 : A) : opsN CV cx (⟨d, .iaddr sz1 x1 i1, some (g, t), bf⟩ :: l) ⟨loc, tl, df, h⟩ Q = guardE (wantedA ⟨loc, tl, df, h⟩ (some (g, t))) (evOp (.iaddr sz1 x1 i1) (evA loc tl) h) CV cx d l loc tl df h Q := nr rfl
theorem zd_iaddr (sz1 : Nat) (x1 i1 : A) : opsD CV cx all ((i, ⟨d, .iaddr sz1 x1 i1, none, bf⟩) :: ld) rs ⟨loc, tl, df, h⟩ Q = contD (evOp (.iaddr sz1 x1 i1) (evA loc tl) h) CV cx all i d (.iaddr sz1 x1 i1) ld rs loc tl df Q := nr (d_val rfl)
theorem zh_iaddr (sz1 : Nat) (x1 i1 : A) : opsD CV cx all ((i, ⟨d, .iaddr sz1 x1 i1, some (g, t), bf⟩) :: ld) rs ⟨loc, tl, df, h⟩ Q = guardD (wantedA ⟨loc, tl, df, h⟩ (some (g, t))) (evOp (.iaddr sz1 x1 i1) (evA loc tl) h) CV cx all i d (.iaddr sz1 x1 i1) ld rs loc tl df h Q := nr (d_guard rfl)
theorem z_mput (d1 : EqD) (m1 k1 v1 : A) : opsN CV cx (⟨d, .mput d1 m1 k1 v1, none, bf⟩ :: l) ⟨loc, tl, df, h⟩ Q = contE (evOp (.mput d1 m1 k1 v1) (evA loc tl) h) CV cx d l loc tl df Q := nr rfl
theorem zg_mput (d1 : EqD) (m1 k1 v1 : A) : opsN CV cx (⟨d, .mput d1 m1 k1 v1, some (g, t), bf⟩ :: l) ⟨loc, tl, df, h⟩ Q = guardE (wantedA ⟨loc, tl, df, h⟩ (some (g, t))) (evOp (.mput d1 m1 k1 v1) (evA loc tl) h) CV cx d l loc tl df h Q := nr rfl
theorem zd_mput (d1 : EqD) (m1 k1 v1 : A) : opsD CV cx all ((i, ⟨d, .mput d1 m1 k1 v1, none, bf⟩) :: ld) rs ⟨loc, tl, df, h⟩ Q = contF (evOp (.mput d1 m1 k1 v1) (evA loc tl) h) CV cx all bf d ld rs loc tl df Q := nr (d_eff rfl)
theorem z_extract (x1 : A) (i1 : Nat) : opsN CV cx (⟨d, .extract x1 i1, none, bf⟩ :: l) ⟨loc, tl, df, h⟩ Q = contE (evOp (.extract x1 i1) (evA loc tl) h) CV cx d l loc tl df Q := nr rfl
theorem zg_extract (x1 : A) (i1 : Nat) : opsN CV cx (⟨d, .extract x1 i1, some (g, t), bf⟩ :: l) ⟨loc, tl, df, h⟩ Q = guardE (wantedA ⟨loc, tl, df, h⟩ (some (g, t))) (evOp (.extract x1 i1) (evA loc tl) h) CV cx d l loc tl df h Q := nr rfl
theorem zd_extract (x1 : A) (i1 : Nat) : opsD CV cx all ((i, ⟨d, .extract x1 i1, none, bf⟩) :: ld) rs ⟨loc, tl, df, h⟩ Q = contD (evOp (.extract x1 i1) (evA loc tl) h) CV cx all i d (.extract x1 i1) ld rs loc tl df Q := nr (d_val rfl)
theorem zh_extract (x1 : A) (i1 : Nat) : opsD CV cx all ((i, ⟨d, .extract x1 i1, some (g, t), bf⟩) :: ld) rs ⟨loc, tl, df, h⟩ Q = guardD (wantedA ⟨loc, tl, df, h⟩ (some (g, t))) (evOp (.extract x1 i1) (evA loc tl) h) CV cx all i d (.extract x1 i1) ld rs loc tl df h Q := nr (d_guard rfl)
theorem z_len (k1 : LK) (x1 : A) : opsN CV cx (⟨d, .len k1 x1, none, bf⟩ :: l) ⟨loc, tl, df, h⟩ Q = contE (evOp (.len k1 x1) (evA loc tl) h) CV cx d l loc tl df Q := nr rfl
theorem zg_len (k1 : LK) (x1 : A) : opsN CV cx (⟨d, .len k1 x1, some (g, t), bf⟩ :: l) ⟨loc, tl, df, h⟩ Q = guardE (wantedA ⟨loc, tl, df, h⟩ (some (g, t))) (evOp (.len k1 x1) (evA loc tl) h) CV cx d l loc tl df h Q := nr rfl
theorem zd_len (k1 : LK) (x1 : A) : opsD CV cx all ((i, ⟨d, .len k1 x1, none, bf⟩) :: ld) rs ⟨loc, tl, df, h⟩ Q = contD (evOp (.len k1 x1) (evA loc tl) h) CV cx all i d (.len k1 x1) ld rs loc tl df Q := nr (d_val rfl)
theorem zh_len (k1 : LK) (x1 : A) : opsD CV cx all ((i, ⟨d, .len k1 x1, some (g, t), bf⟩) :: ld) rs ⟨loc, tl, df, h⟩ Q = guardD (wantedA ⟨loc, tl, df, h⟩ (some (g, t))) (evOp (.len k1 x1) (evA loc tl) h) CV cx all i d (.len k1 x1) ld rs loc tl df h Q := nr (d_guard rfl)
theorem z_append (sz1 by1 : Nat) (s1 x1 : A) : opsN CV cx (⟨d, .append sz1 by1 s1 x1, none, bf⟩ :: l) ⟨loc, tl, df, h⟩ Q = contE (evOp (.append sz1 by1 s1 x1) (evA loc tl) h) CV cx d l loc tl df Q := nr rfl
theorem zg_append (sz1 by1 : Nat) (s1 x1 : A) : opsN CV cx (⟨d, .append sz1 by1 s1 x1, some (g, t), bf⟩ :: l) ⟨loc, tl, df, h⟩ Q = guardE (wantedA ⟨loc, tl, df, h⟩ (some (g, t))) (evOp (.append sz1 by1 s1 x1) (evA loc tl) h) CV cx d l loc tl df h Q := nr rfl
theorem zd_append (sz1 by1 : Nat) (s1 x1 : A) : opsD CV cx all ((i, ⟨d, .append sz1 by1 s1 x1, none, bf⟩) :: ld) rs ⟨loc, tl, df, h⟩ Q = contF (evOp (.append sz1 by1 s1 x1) (evA loc tl) h) CV cx all bf d ld rs loc tl df Q := nr (d_eff rfl)
theorem z_entry (x1 : A) : opsN CV cx (⟨d, .entry x1, none, bf⟩ :: l) ⟨loc, tl, df, h⟩ Q = contE (evOp (.entry x1) (evA loc tl) h) CV cx d l loc tl df Q := nr rfl
theorem zg_entry (x1 : A) : opsN CV cx (⟨d, .entry x1, some (g, t), bf⟩ :: l) ⟨loc, tl, df, h⟩ Q = guardE (wantedA ⟨loc, tl, df, h⟩ (some (g, t))) (evOp (.entry x1) (evA loc tl) h) CV cx d l loc tl df h Q := nr rfl
theorem zd_entry (x1 : A) : opsD CV cx all ((i, ⟨d, .entry x1, none, bf⟩) :: ld) rs ⟨loc, tl, df, h⟩ Q = contD (evOp (.entry x1) (evA loc tl) h) CV cx all i d (.entry x1) ld rs loc tl df Q := nr (d_val rfl)
theorem zh_entry (x1 : A) : opsD CV cx all ((i, ⟨d, .entry x1, some (g, t), bf⟩) :: ld) rs ⟨loc, tl, df, h⟩ Q = guardD (wantedA ⟨loc, tl, df, h⟩ (some (g, t))) (evOp (.entry x1) (evA loc tl) h) CV cx all i d (.entry x1) ld rs loc tl df h Q := nr (d_guard rfl)
theorem z_rngMap (x1 : A) : opsN CV cx (⟨d, .rngMap x1, none, bf⟩ :: l) ⟨loc, tl, df, h⟩ Q = contE (evOp (.rngMap x1) (evA loc tl) h) CV cx d l loc tl df Q := nr rfl
theorem zg_rngMap (x1 : A) : opsN CV cx (⟨d, .rngMap x1, some (g, t), bf⟩ :: l) ⟨loc, tl, df, h⟩ Q = guardE (wantedA ⟨loc, tl, df, h⟩ (some (g, t))) (evOp (.rngMap x1) (evA loc tl) h) CV cx d l loc tl df h Q := nr rfl
theorem zd_rngMap (x1 : A) : opsD CV cx all ((i, ⟨d, .rngMap x1, none, bf⟩) :: ld) rs ⟨loc, tl, df, h⟩ Q = contF (evOp (.rngMap x1) (evA loc tl) h) CV cx all bf d ld rs loc tl df Q := nr (d_eff rfl)
end

/-! ### appends -/
theorem app_none {sz by' : Nat} {s : V} {cs : List V} (hs : (s = .nils) ∨ ∃ b o n c, s = .sl b o n c) : appendV sz by' s 0 cs h = some (s, h) := by
  unfold appendV
  rw [if_pos rfl]
  rcases hs with rfl | ⟨b, o, n, c, rfl⟩ <;> rfl
theorem app_nils {sz by' n : Nat} {cs : List V} (hn : n ≠ 0) (hc : cs.all V.cellOK = true) (hr : roomOK n by' = true) : appendV sz by' .nils n cs h = some (.sl h.next 0 n (.u sz), h.push (.cells cs)) := by
  unfold appendV
  rw [if_neg hn, hc]
  simp only [Bool.not_true, Bool.false_eq_true, if_false, hr, if_true]
theorem app_k {sz by' n b o len c : Nat} {cs old : List V} (hn : n ≠ 0) (hc : cs.all V.cellOK = true) (hr : roomOK (len + n) by' = true) (hk : ¬ len + n ≤ c) (hrd : h.rd b o (len * sz) = some old) :
    appendV sz by' (.sl b o len (.k c)) n cs h = some (.sl h.next 0 (len + n) (.u sz), h.push (.cells (old ++ cs))) := by
  unfold appendV
  rw [if_neg hn, hc]
  simp only [Bool.not_true, Bool.false_eq_true, if_false, if_neg hk, hr, hrd]
theorem app_u {sz by' n b o len : Nat} {cs old : List V} (hn : n ≠ 0) (hc : cs.all V.cellOK = true) (hr : roomOK (len + n) by' = true) (hrd : h.rd b o (len * sz) = some old) {oc : List V} (hg : h.get b = some (.cells oc)) :
    appendV sz by' (.sl b o len (.u sz)) n cs h = some (.sl h.next 0 (len + n) (.u sz), (h.set b .dead).push (.cells (old ++ cs))) := by
  unfold appendV
  rw [if_neg hn, hc]
  simp only [Bool.not_true, Bool.false_eq_true, if_false, hr, rdc_eq hg, hrd, bne_self_eq_false, Bool.or_self]
end Go.Abs
