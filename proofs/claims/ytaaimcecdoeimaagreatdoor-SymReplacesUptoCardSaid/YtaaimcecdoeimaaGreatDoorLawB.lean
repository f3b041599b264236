/-
  Whether two lists of frames are equal.
-/
import Derived.Test.YtaaimcecdoeimaaGreatDoorLawA
namespace Go.Abs.Sy
open Go.Abs

variable {E : Env}

theorem beq_int (a b : Int) : (a == b) = decide (a = b) := by by_cases h : a = b <;> simp [h]

def eqR : ACode := match fn19.body with
  | .seq _ (.seq r _) => r
  | _ => .skip

structure RowAt (h : H) (b : Nat) (f : Fr) (vv sv : V) : Prop where
  code : h.rd b 0 1 = some [.int .i64 f.code]
  pc : h.rd b 1 1 = some [.int .i64 f.pc]
  self : h.rd b 2 6 = some f.self.cells
  hold : h.rd b 8 6 = some f.hold.cells
  vars : h.rd b 14 1 = some [vv]
  stack : h.rd b 15 1 = some [sv]
  up : h.rd b 16 1 = some [.int .i64 f.up]
  act : h.rd b 17 1 = some [.int .i64 f.act]

theorem rowAt {h : H} {b : Nat} {f : Fr} {vv sv : V} (hg : h.get b = some (.cells (Row.cells (f, vv, sv)))) : RowAt h b f vv sv := by
  refine ⟨?_, ?_, ?_, ?_, ?_, ?_, ?_, ?_⟩ <;> exact rd_of hg (Nat.le_of_ble_eq_true rfl)

set_option maxHeartbeats 1000000 in
theorem eq19 (hE : Env0 E) {h : H} (w : WF h) {fa fb : Fr} {va sa vb sb : V} (ra : RowR h (fa, va, sa)) (rb : RowR h (fb, vb, sb)) (hl1 : fa.vars.length ≤ 1048576) (hl2 : fa.stack.length ≤ 1048576) {n : Nat} (hn1 : fa.vars.length ≤ n) (hn2 : fa.stack.length ≤ n) {R : Ret → H → Prop}
    (hR : ∀ h', Pres h h' → R (.ret (.bool (decide (fa = fb)))) h') (k : Nat) : callF E (sems E (k + n + 60)) 19 [.agg (Row.cells (fa, va, sa)), .agg (Row.cells (fb, vb, sb))] h R := by
  rw [show k + n + 60 = (k + n + 59) + 1 from by omega]
  refine call_in hE.mono (hE.none 19 (by decide)) (by rw [hE.ft]; rfl) rfl rfl ?_
  show (sems E (k + n + 59)).code _ fn19.body ⟨[.agg (Row.cells (fa, va, sa)), .agg (Row.cells (fb, vb, sb)), .tup [], .tup [], .tup []], [], [], h⟩ (EndQ [.loc 4] R)
  have p1 : Pres h ((h.push (.cells (Row.cells (fa, va, sa)))).push (.cells (Row.cells (fb, vb, sb)))) := (Pres.push w _).trans (Pres.push (Pres.push w _).wf _)
  have gA : RowAt ((h.push (.cells (Row.cells (fa, va, sa)))).push (.cells (Row.cells (fb, vb, sb)))) h.next fa va sa := rowAt (by
    rw [H.get_push, if_neg (show ¬ h.next = (h.push _).next from Nat.ne_of_lt (Nat.lt_succ_self _)), H.get_push, if_pos rfl])
  have gB : RowAt ((h.push (.cells (Row.cells (fa, va, sa)))).push (.cells (Row.cells (fb, vb, sb)))) (h.next + 1) fb vb sb := rowAt (by
    rw [H.get_push, if_pos (show h.next + 1 = (h.push _).next from rfl)])
  have hfe : (fa = fb) = (fa.code = fb.code ∧ fa.pc = fb.pc ∧ fa.self = fb.self ∧ fa.hold = fb.hold ∧ fa.up = fb.up ∧ fa.act = fb.act ∧ fa.vars = fb.vars ∧ fa.stack = fb.stack) := by
    apply propext
    constructor
    · rintro rfl; simp
    · intro ⟨e1, e2, e3, e4, e5, e6, e7, e8⟩
      cases fa; cases fb
      simp only at e1 e2 e3 e4 e5 e6 e7 e8
      subst e1 e2 e3 e4 e5 e6 e7 e8
      rfl
  generalize hk : k + n = K
  have fin : ∀ (t : Bool) (loc : List V) (tl : List (Nat × V)) (h1 : H), Pres h h1 → t = decide (fa = fb) → loc[4]? = some (.bool t) → EndQ [.loc 4] R X.ret ⟨loc, tl, [], h1⟩ := by
    intro t loc tl h1 p ht hl
    refine ⟨rfl, .bool t, ?_, by rw [ht]; exact hR h1 p⟩
    simp only [resAll, resList, resOf, hl, Option.map_some]
  have nofin : ∀ (loc : List V) (tl : List (Nat × V)) (h1 : H), Pres h h1 → ¬ fa = fb → loc[4]? = some (.bool false) → EndQ [.loc 4] R X.ret ⟨loc, tl, [], h1⟩ := by
    intro loc tl h1 p ht hl
    exact fin false loc tl h1 p (by simp only [ht, decide_false]) hl
  have hbd : fn19.body = .seq (.region [⟨.l 2, .box (.l 0), none, 0⟩, ⟨.l 3, .box (.l 1), none, 0⟩, ⟨.l 4, .mv (.c (.bool false)), none, 0⟩]) (.seq eqR .ret) := rfl
  rw [hbd]
  simp only [↓q_region, ↓q_nil, q_putL, q_evl, q_evc, q_mapsome, evOp, List.getD_cons_zero, List.getD_cons_succ, List.set_cons_zero, List.set_cons_succ, p_agg, H.next_push, ↓z_seq, ↓z_snrm, ↓z_some, ↓z_mv, ↓z_box]
  generalize ((h.push (.cells (Row.cells (fa, va, sa)))).push (.cells (Row.cells (fb, vb, sb)))) = h1 at *
  by_cases c1 : fa.code = fb.code
  case neg =>
    have b1 : decide (fa.code = fb.code) = false := by simp only [c1, decide_false]
    simp only [eqR, fn19, ↓q_region, ↓q_ret, ↓q_nil, q_wanted, q_putL, q_putT, q_evl, q_evt, q_evc, q_mapsome, evOp, List.getD_cons_zero, List.getD_cons_succ, List.set_cons_zero, List.set_cons_succ, if_true, if_false, Nat.reduceEqDiff, Bool.false_eq_true, Nat.zero_add, eq_self, b_eql, ↓z_snrm, ↓z_some, ↓z_gfalse, ↓z_gcall, ↓z_mv, ↓z_pick, ↓z_load, ↓zg_load, ↓z_bin, ↓zg_bin, ↓zg_eq, ↓z_faddr, ↓zg_faddr, b_ft, gA.code, gB.code, beq_int, b1]
    exact nofin _ _ _ p1 (fun e => c1 (by rw [e])) rfl
  have b1 : decide (fa.code = fb.code) = true := by simp only [c1, decide_true]
  by_cases c2 : fa.pc = fb.pc
  case neg =>
    have b2 : decide (fa.pc = fb.pc) = false := by simp only [c2, decide_false]
    simp only [eqR, fn19, ↓q_region, ↓q_ret, ↓q_nil, q_wanted, q_putL, q_putT, q_evl, q_evt, q_evc, q_mapsome, evOp, List.getD_cons_zero, List.getD_cons_succ, List.set_cons_zero, List.set_cons_succ, if_true, if_false, Nat.reduceEqDiff, Bool.false_eq_true, Nat.zero_add, eq_self, b_eql, ↓z_snrm, ↓z_some, ↓z_gtrue, ↓z_gfalse, ↓z_gcall, ↓z_mv, ↓z_pick, ↓z_load, ↓zg_load, ↓z_bin, ↓zg_bin, ↓zg_eq, ↓z_faddr, ↓zg_faddr, b_tt, b_ft, gA.code, gB.code, gA.pc, gB.pc, beq_int, b1, b2]
    exact nofin _ _ _ p1 (fun e => c2 (by rw [e])) rfl
  have b2 : decide (fa.pc = fb.pc) = true := by simp only [c2, decide_true]
  by_cases c3 : fa.self = fb.self
  case neg =>
    have b3 : decide (fa.self = fb.self) = false := by simp only [c3, decide_false]
    simp only [eqR, fn19, ↓q_region, ↓q_ret, ↓q_nil, q_wanted, q_putL, q_putT, q_evl, q_evt, q_evc, q_mapsome, evOp, List.getD_cons_zero, List.getD_cons_succ, List.set_cons_zero, List.set_cons_succ, if_true, if_false, Nat.reduceEqDiff, Bool.false_eq_true, Nat.zero_add, eq_self, b_eql, ↓z_snrm, ↓z_some, ↓z_gtrue, ↓z_gfalse, ↓z_gcall, ↓z_mv, ↓z_pick, ↓z_load, ↓zg_load, ↓z_bin, ↓zg_bin, ↓zg_eq, ↓z_faddr, ↓zg_faddr, b_tt, b_ft, gA.code, gB.code, gA.pc, gB.pc, gA.self, gB.self, sv_eq, beq_int, b1, b2, b3]
    exact nofin _ _ _ p1 (fun e => c3 (by rw [e])) rfl
  have b3 : decide (fa.self = fb.self) = true := by simp only [c3, decide_true]
  by_cases c4 : fa.hold = fb.hold
  case neg =>
    have b4 : decide (fa.hold = fb.hold) = false := by simp only [c4, decide_false]
    simp only [eqR, fn19, ↓q_region, ↓q_ret, ↓q_nil, q_wanted, q_putL, q_putT, q_evl, q_evt, q_evc, q_mapsome, evOp, List.getD_cons_zero, List.getD_cons_succ, List.set_cons_zero, List.set_cons_succ, if_true, if_false, Nat.reduceEqDiff, Bool.false_eq_true, Nat.zero_add, eq_self, b_eql, ↓z_snrm, ↓z_some, ↓z_gtrue, ↓z_gfalse, ↓z_gcall, ↓z_mv, ↓z_pick, ↓z_load, ↓zg_load, ↓z_bin, ↓zg_bin, ↓zg_eq, ↓z_faddr, ↓zg_faddr, b_tt, b_ft, gA.code, gB.code, gA.pc, gB.pc, gA.self, gB.self, gA.hold, gB.hold, sv_eq, beq_int, b1, b2, b3, b4]
    exact nofin _ _ _ p1 (fun e => c4 (by rw [e])) rfl
  have b4 : decide (fa.hold = fb.hold) = true := by simp only [c4, decide_true]
  by_cases c5 : fa.up = fb.up
  case neg =>
    have b5 : decide (fa.up = fb.up) = false := by simp only [c5, decide_false]
    simp only [eqR, fn19, ↓q_region, ↓q_ret, ↓q_nil, q_wanted, q_putL, q_putT, q_evl, q_evt, q_evc, q_mapsome, evOp, List.getD_cons_zero, List.getD_cons_succ, List.set_cons_zero, List.set_cons_succ, if_true, if_false, Nat.reduceEqDiff, Bool.false_eq_true, Nat.zero_add, eq_self, b_eql, ↓z_snrm, ↓z_some, ↓z_gtrue, ↓z_gfalse, ↓z_gcall, ↓z_mv, ↓z_pick, ↓z_load, ↓zg_load, ↓z_bin, ↓zg_bin, ↓zg_eq, ↓z_faddr, ↓zg_faddr, b_tt, b_ft, gA.code, gB.code, gA.pc, gB.pc, gA.self, gB.self, gA.hold, gB.hold, gA.up, gB.up, sv_eq, beq_int, b1, b2, b3, b4, b5]
    exact nofin _ _ _ p1 (fun e => c5 (by rw [e])) rfl
  have b5 : decide (fa.up = fb.up) = true := by simp only [c5, decide_true]
  by_cases c6 : fa.act = fb.act
  case neg =>
    have b6 : decide (fa.act = fb.act) = false := by simp only [c6, decide_false]
    simp only [eqR, fn19, ↓q_region, ↓q_ret, ↓q_nil, q_wanted, q_putL, q_putT, q_evl, q_evt, q_evc, q_mapsome, evOp, List.getD_cons_zero, List.getD_cons_succ, List.set_cons_zero, List.set_cons_succ, if_true, if_false, Nat.reduceEqDiff, Bool.false_eq_true, Nat.zero_add, eq_self, b_eql, ↓z_snrm, ↓z_some, ↓z_gtrue, ↓z_gfalse, ↓z_gcall, ↓z_mv, ↓z_pick, ↓z_load, ↓zg_load, ↓z_bin, ↓zg_bin, ↓zg_eq, ↓z_faddr, ↓zg_faddr, b_tt, b_ft, gA.code, gB.code, gA.pc, gB.pc, gA.self, gB.self, gA.hold, gB.hold, gA.up, gB.up, gA.act, gB.act, sv_eq, beq_int, b1, b2, b3, b4, b5, b6]
    exact nofin _ _ _ p1 (fun e => c6 (by rw [e])) rfl
  have b6 : decide (fa.act = fb.act) = true := by simp only [c6, decide_true]
  simp only [eqR, fn19, ↓q_region, q_wanted, q_putT, q_evl, q_evt, q_evc, q_evf, q_mapsome, evOp, List.getD_cons_zero, List.getD_cons_succ, if_true, if_false, Nat.reduceEqDiff, List.map_cons, List.map_nil, Bool.false_eq_true, List.nil_append, List.append_nil, Nat.zero_add, eq_self, b_eql, ↓z_span, ↓z_some, ↓z_gtrue, ↓z_gcall, ↓z_mv, ↓z_pick, ↓z_load, ↓zg_load, ↓z_bin, ↓zg_bin, ↓zg_eq, ↓z_faddr, ↓zg_faddr, b_tt, gA.code, gB.code, gA.pc, gB.pc, gA.self, gB.self, gA.hold, gB.hold, gA.up, gB.up, gA.act, gB.act, gA.vars, gB.vars, sv_eq, beq_int, b1, b2, b3, b4, b5, b6, callV]
  refine callF_le hE.mono (sems_le hE.mono (0 + fa.vars.length + 40) _ (by omega)) (fun _ _ x => x) (equal20 hE (ra.1.pres w p1) (rb.1.pres w p1) hl1 ?_ 0)
  by_cases c7 : fa.vars = fb.vars
  case neg =>
    have b7 : decide (fa.vars = fb.vars) = false := by simp only [c7, decide_false]
    simp only [↓q_ret, ↓q_nil, q_wanted, q_putL, q_putT, q_evl, q_evt, q_evc, evOp, List.getD_cons_zero, List.getD_cons_succ, List.set_cons_zero, List.set_cons_succ, if_true, if_false, Nat.reduceEqDiff, Bool.false_eq_true, Nat.zero_add, eq_self, ↓z_snrm, ↓z_some, ↓z_gfalse, ↓z_gcall, ↓z_mv, ↓z_pick, ↓zg_load, ↓zg_faddr, b_ft, b7]
    exact nofin _ _ _ p1 (fun e => c7 (by rw [e])) rfl
  have b7 : decide (fa.vars = fb.vars) = true := by simp only [c7, decide_true]
  simp only [↓q_ret, ↓q_nil, q_wanted, q_putL, q_putT, q_evl, q_evt, q_evc, q_evf, q_mapsome, evOp, List.getD_cons_zero, List.getD_cons_succ, List.set_cons_zero, List.set_cons_succ, if_true, if_false, Nat.reduceEqDiff, List.map_cons, List.map_nil, Bool.false_eq_true, List.nil_append, List.append_nil, Nat.zero_add, eq_self, ↓z_snrm, ↓z_span, ↓z_some, ↓z_gtrue, ↓z_gcall, ↓z_mv, ↓z_pick, ↓zg_load, ↓zg_faddr, b_tt, b7, gA.stack, gB.stack, callV]
  refine callF_le hE.mono (sems_le hE.mono (0 + fa.stack.length + 40) _ (by omega)) (fun _ _ x => x) (equal20 hE (ra.2.pres w p1) (rb.2.pres w p1) hl2 ?_ 0)
  by_cases c8 : fa.stack = fb.stack
  case neg =>
    have b8 : decide (fa.stack = fb.stack) = false := by simp only [c8, decide_false]
    simp only [b8]
    exact nofin _ _ _ p1 (fun e => c8 (by rw [e])) rfl
  have b8 : decide (fa.stack = fb.stack) = true := by simp only [c8, decide_true]
  simp only [b8]
  exact fin true _ _ _ p1 (by rw [eq_comm, decide_eq_true_eq, hfe]; exact ⟨c1, c2, c3, c4, c5, c6, c7, c8⟩) rfl

def eqfB : ACode := match fn18.body with
  | .seq _ (.seq _ (.seq (.seq _ (.block _ (.loop b))) _)) => b
  | _ => .skip

theorem eqfLoop (hE : Env0 E) {h : H} (w : WF h) {v u : V} {x y : List Row} (rx : FsR h v x) (ry : FsR h u y) (hxy : x.length = y.length) (hf : fits20 x) {m : Nat} (hm : ∀ r ∈ x, r.1.vars.length ≤ m ∧ r.1.stack.length ≤ m) {cx : Cx} {Q : X → St → Prop}
    (hQ0 : x.map (·.1) = y.map (·.1) → ∀ loc tl hh, Pres h hh → loc.length = 10 → Q (.exit 0) ⟨loc, tl, [], hh⟩)
    (hQ1 : x.map (·.1) ≠ y.map (·.1) → ∀ loc tl hh, Pres h hh → loc[3]? = some (.bool false) → Q .ret ⟨loc, tl, [], hh⟩) (k : Nat) :
    ∀ (n i : Nat) (a4 a5 a6 : V) (tl : List (Nat × V)) (hh : H), i + n = x.length → Pres h hh → (x.take i).map (·.1) = (y.take i).map (·.1) →
      (sems E (k + m + n + 90)).code cx (.loop eqfB) ⟨[v, u, .fn (.func 19) [] [], .bool false, a4, a5, a6, v, .int .i64 x.length, .int .i64 i], tl, [], hh⟩ Q := by
  intro n
  induction n with
  | zero =>
    intro i a4 a5 a6 tl hh hi p he
    rw [show k + m + 0 + 90 = (k + m + 89) + 1 from by omega]
    refine loop_code ?_
    have hlt : decide ((i : Int) < (x.length : Int)) = false := by simp only [decide_eq_false_iff_not]; omega
    simp only [eqfB, fn18, ↓q_region, ↓q_exit, ↓q_cond, ↓q_nil, q_putT, q_evl, q_evt, q_mapsome, evOp, List.getD_cons_zero, List.getD_cons_succ, if_true, if_false, Bool.false_eq_true, eq_self, b_lss, ↓z_seq, ↓z_snrm, ↓z_sexit, ↓z_some, ↓z_bin, hlt]
    refine hQ0 ?_ _ _ _ p rfl
    rw [List.take_of_length_le (by omega), List.take_of_length_le (by omega)] at he
    exact he
  | succ n ih =>
    intro i a4 a5 a6 tl hh hi p he
    rw [show k + m + (n + 1) + 90 = (k + m + n + 90) + 1 from by omega]
    refine loop_code ?_
    have hlt : decide ((i : Int) < (x.length : Int)) = true := by simp only [decide_eq_true_eq]; omega
    obtain ⟨⟨fa, va, sa⟩, hr⟩ : ∃ r, x[i]? = some r := ⟨x[i], List.getElem?_eq_getElem (by omega)⟩
    obtain ⟨⟨fb, vb, sb⟩, hs⟩ : ∃ r, y[i]? = some r := ⟨y[i], List.getElem?_eq_getElem (by omega)⟩
    have rra := rx.2 _ (List.mem_of_getElem? hr)
    have rrb := ry.2 _ (List.mem_of_getElem? hs)
    have hma := hm _ (List.mem_of_getElem? hr)
    have hfa := hf.2 _ (List.mem_of_getElem? hr)
    obtain ⟨b, ob, cap, rfl, hrd⟩ := rx.at hr
    obtain ⟨b2, ob2, cap2, rfl, hrd2⟩ := ry.at hs
    have hc : ((0 : Int) ≤ (i : Int) ∧ (i : Int) < (x.length : Int)) = True := by simp only [eq_iff_iff, iff_true]; omega
    have hc2 : ((0 : Int) ≤ (i : Int) ∧ (i : Int) < (y.length : Int)) = True := by simp only [eq_iff_iff, iff_true]; omega
    have hwr : IntKind.wrap .i64 ((i : Int) + 1) = ((i + 1 : Nat) : Int) := by
      rw [wrap_small (by omega) (by have := hf.1; omega)]; omega
    generalize hK : (fun (x' : X) (st' : St) => (match x' with | .nrm => (sems E (k + m + n + 90)).code cx (.loop eqfB) st' Q | x => Q x st' : Prop)) = K
    have r1 := rd_pres w p hrd
    have ca := Row.all rra
    have cb := Row.all rrb
    have w1 := push_wr (h := hh) (c := zrow) (vs := Row.cells (fa, va, sa)) rfl
    have p1 : Pres hh ((hh.push (.cells zrow)).set hh.next (.cells (Row.cells (fa, va, sa)))) := (Pres.push p.wf _).set (Nat.le_refl _) (Nat.lt_succ_self _) _
    have n1 : ((hh.push (.cells zrow)).set hh.next (.cells (Row.cells (fa, va, sa)))).next = hh.next + 1 := rfl
    have g1 : ((hh.push (.cells zrow)).set hh.next (.cells (Row.cells (fa, va, sa)))).get hh.next = some (.cells (Row.cells (fa, va, sa))) := by rw [H.get_set, if_pos rfl]
    unfold zrow at w1 p1 n1 g1
    simp only [eqfB, fn18, ↓q_region, ↓q_skip, ↓q_cond, ↓q_nil, q_putL, q_putT, q_putN, q_evl, q_evt, q_mapsome, evOp, List.getD_cons_zero, List.getD_cons_succ, List.set_cons_zero, List.set_cons_succ, if_true, if_false, Nat.reduceEqDiff, and_self, p_agg, eq_self, b_lss, Int.toNat_natCast, ↓z_seq, ↓z_block, ↓z_snrm, ↓z_some, ↓z_mv, ↓z_alloc, ↓z_load, ↓z_store, ↓z_bin, ↓z_iaddr, hlt, hc, r1, Row.len, ca, w1]
    generalize ((hh.push (.cells [.int .i64 0, .int .i64 0, .int .i64 0, .int .i64 0, .int .i64 0, .int .i64 0, .int .i64 0, .str [], .int .i64 0, .int .i64 0, .int .i64 0, .int .i64 0, .int .i64 0, .str [], .nils, .nils, .int .i64 0, .int .i64 0])).set hh.next (.cells (Row.cells (fa, va, sa)))) = h1 at *
    have r2 := rd_pres w (p.trans p1) hrd2
    have w2 := push_wr (h := h1) (c := zrow) (vs := Row.cells (fb, vb, sb)) rfl
    have p2 : Pres h1 ((h1.push (.cells zrow)).set h1.next (.cells (Row.cells (fb, vb, sb)))) := (Pres.push p1.wf _).set (Nat.le_refl _) (Nat.lt_succ_self _) _
    have g2 : ((h1.push (.cells zrow)).set h1.next (.cells (Row.cells (fb, vb, sb)))).get h1.next = some (.cells (Row.cells (fb, vb, sb))) := by rw [H.get_set, if_pos rfl]
    unfold zrow at w2 p2 g2
    simp only [↓q_region, ↓q_nil, q_putL, q_putT, q_putN, q_evl, q_evt, q_mapsome, evOp, List.getD_cons_zero, List.getD_cons_succ, List.set_cons_zero, List.set_cons_succ, if_true, if_false, Nat.reduceEqDiff, and_self, p_agg, eq_self, ↓z_seq, ↓z_snrm, ↓z_some, ↓z_mv, ↓z_alloc, ↓z_load, ↓z_store, hc2, r2, Row.len, cb, w2]
    generalize ((h1.push (.cells [.int .i64 0, .int .i64 0, .int .i64 0, .int .i64 0, .int .i64 0, .int .i64 0, .int .i64 0, .str [], .int .i64 0, .int .i64 0, .int .i64 0, .int .i64 0, .int .i64 0, .str [], .nils, .nils, .int .i64 0, .int .i64 0])).set h1.next (.cells (Row.cells (fb, vb, sb)))) = h2 at *
    have q1 : h2.rd hh.next 0 18 = some (Row.cells (fa, va, sa)) := by
      rw [rd_of (c := Row.cells (fa, va, sa)) (by rw [p2.same _ (by omega)]; exact g1) (by rw [Row.len]; omega), List.drop_zero, List.take_of_length_le (by rw [Row.len]; omega)]
    have q2 : h2.rd h1.next 0 18 = some (Row.cells (fb, vb, sb)) := by
      rw [rd_of g2 (by rw [Row.len]; omega), List.drop_zero, List.take_of_length_le (by rw [Row.len]; omega)]
    have pp := (p.trans p1).trans p2
    simp only [q_putT, q_evl, q_evt, q_mapsome, evOp, List.getD_cons_zero, List.getD_cons_succ, if_true, if_false, Nat.reduceEqDiff, List.map_cons, List.map_nil, List.nil_append, List.append_nil, eq_self, ↓z_span, ↓z_bpan, ↓z_some, ↓z_call, ↓z_load, ↓z_un, q1, q2, callV]
    refine callF_le hE.mono (sems_le hE.mono (0 + m + 60) _ (by omega)) (fun _ _ x => x) (eq19 hE pp.wf (rra.pres w pp) (rrb.pres w pp) hfa.1 hfa.2 hma.1 hma.2 ?_ 0)
    intro h3 p3
    have p4 := pp.trans p3
    by_cases hab : fa = fb
    · have hd : decide (fa = fb) = true := by simp only [hab, decide_true]
      simp only [↓q_region, ↓q_skip, ↓q_cond, ↓q_nil, q_putL, q_putT, q_evl, q_evt, q_evc, q_mapsome, evOp, List.getD_cons_zero, List.getD_cons_succ, List.set_cons_zero, List.set_cons_succ, if_true, if_false, Nat.reduceEqDiff, Bool.false_eq_true, Bool.not_true, eq_self, b_add, u_not, ↓z_snrm, ↓z_bnrm, ↓z_some, ↓z_mv, ↓z_bin, hd, hwr]
      rw [← hK]
      exact ih (i + 1) _ _ _ _ _ (by omega) p4 (by rw [List.take_add_one, List.take_add_one, List.map_append, List.map_append, he, hr, hs]; simp [hab])
    · have hd : decide (fa = fb) = false := by simp only [hab, decide_false]
      simp only [↓q_region, ↓q_ret, ↓q_cond, ↓q_nil, q_putL, q_putT, q_evt, q_evc, q_mapsome, evOp, List.set_cons_zero, List.set_cons_succ, if_true, if_false, Nat.reduceEqDiff, Bool.not_false, eq_self, u_not, ↓z_seq, ↓z_snrm, ↓z_sret, ↓z_bret, ↓z_some, ↓z_mv, hd]
      rw [← hK]
      refine hQ1 (fun e => hab ?_) _ _ _ p4 rfl
      have e1 : (x.map (·.1))[i]? = some fa := by rw [List.getElem?_map, hr]; rfl
      have e2 : (y.map (·.1))[i]? = some fb := by rw [List.getElem?_map, hs]; rfl
      rw [e, e2] at e1
      exact (Option.some.inj e1).symm
end Go.Abs.Sy

namespace Go.Abs.Sy
open Go.Abs

variable {E : Env}

theorem equal18 (hE : Env0 E) {h : H} (w : WF h) {v u : V} {x y : List Row} (rx : FsR h v x) (ry : FsR h u y) (hf : fits20 x) {m : Nat} (hm : ∀ r ∈ x, r.1.vars.length ≤ m ∧ r.1.stack.length ≤ m) {R : Ret → H → Prop}
    (hR : ∀ h', Pres h h' → R (.ret (.bool (decide (x.map (·.1) = y.map (·.1))))) h') (k : Nat) : callF E (sems E (k + m + x.length + 100)) 18 [v, u, .fn (.func 19) [] []] h R := by
  rw [show k + m + x.length + 100 = (k + m + x.length + 99) + 1 from by omega]
  refine call_in hE.mono (hE.none 18 (by decide)) (by rw [hE.ft]; rfl) rfl rfl ?_
  show (sems E (k + m + x.length + 99)).code _ fn18.body ⟨[v, u, .fn (.func 19) [] [], .tup [], .tup [], .tup [], .tup [], .tup [], .tup [], .tup []], [], [], h⟩ (EndQ [.loc 3] R)
  have hbd : fn18.body = .seq (.region [⟨.l 3, .mv (.c (.bool false)), none, 0⟩]) (.seq (.seq (.region [⟨.t 10, .mv (.l 0), none, 0⟩, ⟨.t 11, .len .sl (.t 10), none, 0⟩, ⟨.t 12, .mv (.l 1), none, 0⟩, ⟨.t 13, .len .sl (.t 12), none, 0⟩, ⟨.t 14, .bin .neq (.t 11) (.t 13), none, 0⟩]) (.cond (.t 14) (.seq (.region [⟨.l 3, .mv (.c (.bool false)), none, 0⟩]) .ret) .skip))
      (.seq (.seq (.region [⟨.l 7, .mv (.l 0), none, 0⟩, ⟨.l 8, .len .sl (.l 7), none, 0⟩, ⟨.l 9, .mv (.c (.int .i64 0)), none, 0⟩]) (.block 0 (.loop eqfB))) (.seq (.region [⟨.l 3, .mv (.c (.bool true)), none, 0⟩]) .ret))) := rfl
  rw [hbd]
  by_cases hl : x.length = y.length
  · have hne : (((x.length : Nat) : Int) != ((y.length : Nat) : Int)) = false := by rw [hl]; simp
    simp only [↓q_region, ↓q_skip, ↓q_cond, ↓q_nil, q_putL, q_putT, q_evl, q_evt, q_evc, q_mapsome, evOp, List.getD_cons_zero, List.getD_cons_succ, List.set_cons_zero, List.set_cons_succ, if_true, if_false, Nat.reduceEqDiff, Bool.false_eq_true, eq_self, b_neq, ↓z_seq, ↓z_block, ↓z_snrm, ↓z_some, ↓z_mv, ↓z_bin, ↓z_len, rx.len.1, rx.len.2, ry.len.1, ry.len.2, hne]
    rw [show k + m + x.length + 94 = (k + 4) + m + x.length + 90 from by omega]
    refine eqfLoop hE w rx ry hl hf hm ?_ ?_ (k + 4) x.length 0 _ _ _ _ h (by omega) (Pres.refl w) rfl
    · intro e loc tl hh p h10
      simp only [↓q_region, ↓q_ret, ↓q_nil, q_putL, q_evc, evOp, if_true, eq_self, ↓z_seq, ↓z_snrm, ↓z_sexit, ↓z_bexit, ↓z_some, ↓z_mv]
      refine ⟨rfl, .bool true, ?_, by have := hR hh p; rw [show decide (x.map (·.1) = y.map (·.1)) = true from by simp only [decide_eq_true_eq]; exact e] at this; exact this⟩
      simp only [resAll, resList, resOf, List.getElem?_set_self (show 3 < loc.length by omega), Option.map_some]
    · intro e loc tl hh p h3
      simp only [↓z_sret, ↓z_bret]
      refine ⟨rfl, .bool false, ?_, by have := hR hh p; rw [show decide (x.map (·.1) = y.map (·.1)) = false from by simp only [decide_eq_false_iff_not]; exact e] at this; exact this⟩
      simp only [resAll, resList, resOf, h3, Option.map_some]
  · have hne : (((x.length : Nat) : Int) != ((y.length : Nat) : Int)) = true := by simp; omega
    simp only [↓q_region, ↓q_ret, ↓q_cond, ↓q_nil, q_putL, q_putT, q_evl, q_evt, q_evc, q_mapsome, evOp, List.getD_cons_zero, List.getD_cons_succ, List.set_cons_zero, List.set_cons_succ, if_true, if_false, Nat.reduceEqDiff, eq_self, b_neq, ↓z_seq, ↓z_snrm, ↓z_sret, ↓z_some, ↓z_mv, ↓z_bin, ↓z_len, rx.len.1, rx.len.2, ry.len.1, ry.len.2, hne]
    refine ⟨rfl, .bool false, rfl, ?_⟩
    have := hR h (Pres.refl w)
    rw [show decide (x.map (·.1) = y.map (·.1)) = false from by
      simp only [decide_eq_false_iff_not]; intro e
      have := congrArg List.length e
      rw [List.length_map, List.length_map] at this
      exact hl this] at this
    exact this

theorem equal9 (hE : Env0 E) {h : H} (w : WF h) {v u : V} {x y : List Row} (rx : FsR h v x) (ry : FsR h u y) (hf : fits20 x) {m : Nat} (hm : ∀ r ∈ x, r.1.vars.length ≤ m ∧ r.1.stack.length ≤ m) {R : Ret → H → Prop}
    (hR : ∀ h', Pres h h' → R (.ret (.bool (decide (x.map (·.1) = y.map (·.1))))) h') (k : Nat) : callF E (sems E (k + m + x.length + 110)) 9 [v, u] h R := by
  rw [show k + m + x.length + 110 = (k + m + x.length + 109) + 1 from by omega]
  refine call_in hE.mono (hE.none 9 (by decide)) (by rw [hE.ft]; rfl) rfl rfl ?_
  show (sems E (k + m + x.length + 109)).code _ fn9.body ⟨[v, u, .tup []], [], [], h⟩ (EndQ [.loc 2] R)
  simp only [fn9, ↓q_region, ↓q_ret, ↓q_nil, q_putL, q_putT, q_evl, q_evt, q_evc, q_evf, evOp, List.getD_cons_zero, List.getD_cons_succ, List.set_cons_zero, List.set_cons_succ, if_true, if_false, Nat.reduceEqDiff, List.map_cons, List.map_nil, List.nil_append, List.append_nil, eq_self, ↓z_seq, ↓z_snrm, ↓z_span, ↓z_some, ↓z_call, ↓z_mv, callV]
  refine callF_le hE.mono (sems_le hE.mono (k + m + x.length + 100) _ (by omega)) (fun _ _ x => x) (equal18 hE w rx ry hf hm ?_ k)
  intro h' p
  simp only []
  exact ⟨rfl, _, rfl, hR h' p⟩
end Go.Abs.Sy
