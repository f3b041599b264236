/-
  reg, size, slices.Clone, copied.
-/
import Derived.Test.YtaaimcecdoeimaaGreatDoorSymA
namespace Go.Abs.Sy
open Go.Abs

variable {E : Env}

def regOf (n : Int) : SV := ⟨1, n, 0, 0, 0, []⟩

def EndQ (res : List Res) (R : Ret → H → Prop) (x : X) (st : St) : Prop :=
  st.df = [] ∧ match x with
    | .nrm | .ret => ∃ v, resAll st.loc st.h res = some v ∧ R (.ret v) st.h
    | _ => False

theorem frame_in (hE : ExtMono E) {k f : Nat} {fn : AFunc} {args : List V} {h : H} {R : Ret → H → Prop} (hf : E.ft f = some fn) (hr : fn.rcv = none) (hl : args.length = fn.np)
    (hc : (sems E k).code ⟨f, none⟩ fn.body ⟨args ++ List.replicate (fn.nl - args.length) (.tup []), [], [], h⟩ (EndQ fn.res R)) : (sems E (k + 1)).frame f args none h fun r _ h' => R r h' := by
  refine frame_run ?_
  unfold frameF
  rw [hf]
  refine ⟨hl, ?_⟩
  unfold enterSt enterLoc
  rw [hr]
  refine (sems_le hE k k (Nat.le_refl _)).code _ _ _ _ _ ?_ hc
  intro x st ⟨hd, hx⟩
  refine ⟨fun e => (by cases e), ?_⟩
  rw [hd]
  cases x with
  | nrm => unfold leaveF; obtain ⟨v, h1, h2⟩ := hx; dsimp only; rw [h1]; exact h2
  | ret => unfold leaveF; obtain ⟨v, h1, h2⟩ := hx; dsimp only; rw [h1]; exact h2
  | pan v => cases hx
  | exit i => cases hx

/-- a plain function's call -/
theorem call_in (hE : ExtMono E) {k f : Nat} {fn : AFunc} {args : List V} {h : H} {R : Ret → H → Prop} (hx : E.ext f = none) (hf : E.ft f = some fn) (hr : fn.rcv = none) (hl : args.length = fn.np)
    (hc : (sems E k).code ⟨f, none⟩ fn.body ⟨args ++ List.replicate (fn.nl - args.length) (.tup []), [], [], h⟩ (EndQ fn.res R)) : callF E (sems E (k + 1)) f args h R :=
  callF_ft hx hf hr (frame_in hE hf hr hl hc)

/-- the environment: this table; nothing of these is a contract -/
structure Env0 (E : Env) : Prop where
  ft : E.ft = ft
  mono : ExtMono E
  none : ∀ f ∈ [5, 6, 7, 8, 9, 15, 16, 18, 19, 20, 35, 36, 37, 38], E.ext f = none

theorem reg7 (hE : Env0 E) {k : Nat} {n : Int} {h : H} (w : WF h) {R : Ret → H → Prop} (hR : ∀ h', Pres h h' → R (.ret (.agg (regOf n).cells)) h') : callF E (sems E (k + 10)) 7 [.int .i64 n] h R := by
  refine call_in (k := k + 9) hE.mono (hE.none 7 (by decide)) (by rw [hE.ft]; rfl) rfl rfl ?_
  have hw : (h.push (.cells [.int .i64 0, .int .i64 0, .int .i64 0, .int .i64 0, .int .i64 0, .str []])).wr h.next 0 [.int .i64 1, .int .i64 n, .int .i64 0, .int .i64 0, .int .i64 0, .str []] = some ((h.push (.cells [.int .i64 0, .int .i64 0, .int .i64 0, .int .i64 0, .int .i64 0, .str []])).set h.next (.cells (regOf n).cells)) := by
    unfold H.wr; rw [H.get_push, if_pos rfl]; rfl
  show (sems E (k + 9)).code _ fn7.body ⟨[.int .i64 n, .tup []], [], [], h⟩ (EndQ [.cell 1 true 6] R)
  simp only [fn7, ↓q_region, ↓q_ret, ↓q_nil, q_putL, q_putT, q_putN, q_evl, q_evt, q_evc, q_mapsome, evOp, List.getD_cons_zero, List.getD_cons_succ, List.set_cons_zero, List.set_cons_succ, if_true, if_false, Nat.reduceEqDiff, List.length_cons, List.length_nil, List.take_succ_cons, List.take_zero, List.drop_succ_cons, List.drop_zero, List.cons_append, List.nil_append, Nat.reduceAdd, Nat.reduceLeDiff, Nat.zero_add, and_self, List.all_cons, List.all_nil, c_int, c_str, Bool.and_self, fill, p_agg, p_int, eq_self, ↓z_seq, ↓z_snrm, ↓z_some, ↓z_mv, ↓z_alloc, ↓z_build, ↓z_store, hw]
  refine ⟨rfl, .agg (regOf n).cells, ?_, hR _ ((Pres.push w _).set (Nat.le_refl _) (Nat.lt_succ_self _) _)⟩
  have : (H.rd ((h.push (.cells [.int .i64 0, .int .i64 0, .int .i64 0, .int .i64 0, .int .i64 0, .str []])).set h.next (.cells (regOf n).cells)) h.next 0 6) = some (regOf n).cells := by
    unfold H.rd; rw [H.get_set, if_pos rfl]; rfl
  simp only [resAll, resList, resOf, List.getElem?_cons_succ, List.getElem?_cons_zero, if_true, this, Option.map_some]

/-- a list in a block of its own -/
def SlO (lo hi : Nat) (h : H) (v : V) (l : List SV) : Prop := (v = .nils ∧ l = []) ∨ ∃ b cap, v = .sl b 0 l.length cap ∧ lo ≤ b ∧ b < hi ∧ h.get b = some (.cells (svs l))

theorem SlO.slR {lo hi : Nat} {h : H} {v : V} {l : List SV} (r : SlO lo hi h v l) : SlR h v l := by
  rcases r with r | ⟨b, cap, rfl, _, _, hg⟩
  · exact .inl r
  · refine .inr ⟨b, 0, cap, rfl, ?_⟩
    unfold H.rd; rw [hg]
    dsimp only
    rw [if_pos (by rw [svs_length]; omega), List.drop_zero, List.take_of_length_le (by rw [svs_length]; omega)]

theorem clone38 (hE : Env0 E) {k : Nat} {h : H} (w : WF h) {v : V} {l : List SV} (r : SlR h v l) (hb : l.length ≤ 1048576) {R : Ret → H → Prop}
    (hR : ∀ v' h', Pres h h' → SlO h.next h'.next h' v' l → R (.ret v') h') : callF E (sems E (k + 20)) 38 [v] h R := by
  refine call_in (k := k + 19) hE.mono (hE.none 38 (by decide)) (by rw [hE.ft]; rfl) rfl rfl ?_
  show (sems E (k + 19)).code _ fn38.body ⟨[v, .tup []], [], [], h⟩ (EndQ [.loc 1] R)
  rcases r with ⟨rfl, rfl⟩ | ⟨b, o, cap, rfl, hrd⟩
  · simp only [fn38, ↓q_region, ↓q_ret, ↓q_cond, ↓q_nil, q_putL, q_putT, q_evl, q_evt, q_evc, q_mapsome, evOp, List.getD_cons_zero, List.set_cons_zero, List.set_cons_succ, if_true, if_false, Nat.reduceEqDiff, Bool.false_eq_true, eq_self, ↓z_seq, ↓z_snrm, ↓z_sret, ↓z_some, ↓z_mv, ↓z_eqnil, eqNil]
    exact ⟨rfl, .nils, rfl, hR _ _ (Pres.refl w) (.inl ⟨rfl, rfl⟩)⟩
  · have hsrc : (h.push (.cells [])).rd b o (l.length * 6) = some (svs l) := rd_pres w (Pres.push w _) hrd
    simp only [fn38, ↓q_region, ↓q_skip, ↓q_cond, ↓q_nil, q_putL, q_putT, q_evl, q_evt, q_evc, q_mapsome, evOp, List.getD_cons_zero, List.set_cons_zero, List.set_cons_succ, if_true, if_false, Nat.reduceEqDiff, Bool.false_eq_true, List.length_cons, List.length_nil, Nat.reduceAdd, Nat.zero_add, fill, eq_self, ↓z_seq, ↓z_snrm, ↓z_some, ↓z_mv, ↓z_bslice, ↓z_eqnil, ↓z_append, eqNil, reps, srcOf, hsrc]
    by_cases hl : l.length = 0
    · have : l = [] := List.length_eq_zero_iff.1 hl
      subst this
      rw [show ([] : List SV).length = 0 from rfl, app_none (.inr ⟨_, _, _, _, rfl⟩)]
      simp only [↓q_ret, ↓q_nil, q_putL, q_putT, q_evt, evOp, List.set_cons_zero, List.set_cons_succ, if_true, if_false, Nat.reduceEqDiff, eq_self, ↓z_snrm, ↓z_some, ↓z_mv]
      exact ⟨rfl, _, rfl, hR _ _ (Pres.push w _) (.inr ⟨h.next, .k 0, rfl, Nat.le_refl _, Nat.lt_succ_self _, by rw [H.get_push, if_pos rfl]; rfl⟩)⟩
    · rw [app_k (old := []) hl (svs_ok l) (by simp only [roomOK, decide_eq_true_eq]; omega) (by omega) (by unfold H.rd; rw [H.get_push, if_pos rfl]; rfl)]
      simp only [↓q_ret, ↓q_nil, q_putL, q_putT, q_evt, evOp, List.set_cons_zero, List.set_cons_succ, if_true, if_false, Nat.reduceEqDiff, List.nil_append, Nat.zero_add, eq_self, H.next_push, ↓z_snrm, ↓z_some, ↓z_mv]
      exact ⟨rfl, _, rfl, hR _ _ ((Pres.push w _).trans (Pres.push (Pres.push w _).wf _)) (.inr ⟨h.next + 1, .u 6, rfl, Nat.le_succ _, Nat.lt_succ_self _, by rw [H.get_push, if_pos (show h.next + 1 = (h.push (.cells [])).next from rfl)]⟩)⟩

theorem SlO.pres {lo hi : Nat} {h h' : H} (w : WF h) (p : Pres h h') {v : V} {l : List SV} (r : SlO lo hi h v l) : SlO lo hi h' v l := by
  rcases r with r | ⟨b, cap, e, h1, h2, hg⟩
  · exact .inl r
  · exact .inr ⟨b, cap, e, h1, h2, by rw [p.same b (wf_lt w hg)]; exact hg⟩
theorem SlO.wide {lo hi lo' hi' : Nat} {h : H} (hl : lo' ≤ lo) (hh : hi ≤ hi') {v : V} {l : List SV} (r : SlO lo hi h v l) : SlO lo' hi' h v l := by
  rcases r with r | ⟨b, cap, e, h1, h2, hg⟩
  · exact .inl r
  · exact .inr ⟨b, cap, e, by omega, by omega, hg⟩
/-- another block is turned -/
theorem SlO.set {lo hi : Nat} {h : H} {v : V} {l : List SV} (r : SlO lo hi h v l) {b : Nat} (hb : b < lo ∨ hi ≤ b) (o : O) : SlO lo hi (h.set b o) v l := by
  rcases r with r | ⟨c, cap, e, h1, h2, hg⟩
  · exact .inl r
  · exact .inr ⟨c, cap, e, h1, h2, by rw [H.get_set, if_neg (by omega)]; exact hg⟩
theorem SlO.cellOK {lo hi : Nat} {h : H} {v : V} {l : List SV} (r : SlO lo hi h v l) : v.cellOK = true := r.slR.cellOK

theorem wr_of {h : H} {b o : Nat} {c vs : List V} (hg : h.get b = some (.cells c)) (hl : o + vs.length ≤ c.length) : h.wr b o vs = some (h.set b (.cells (c.take o ++ (vs ++ c.drop (o + vs.length))))) := by
  unfold H.wr; rw [hg]; dsimp only; rw [if_pos hl]
theorem rd_of {h : H} {b o n : Nat} {c : List V} (hg : h.get b = some (.cells c)) (hl : o + n ≤ c.length) : h.rd b o n = some ((c.drop o).take n) := by
  unfold H.rd; rw [hg]; dsimp only; rw [if_pos hl]

def zrow : List V := [.int .i64 0, .int .i64 0, .int .i64 0, .int .i64 0, .int .i64 0, .int .i64 0, .int .i64 0, .str [], .int .i64 0, .int .i64 0, .int .i64 0, .int .i64 0, .int .i64 0, .str [], .nils, .nils, .int .i64 0, .int .i64 0]

theorem copy37 (hE : Env0 E) {k : Nat} {h : H} (w : WF h) {f : Fr} {vv sv : V} (r : RowR h (f, vv, sv)) (hb1 : f.vars.length ≤ 1048576) (hb2 : f.stack.length ≤ 1048576) {R : Ret → H → Prop}
    (hR : ∀ vv' sv' h' mid, Pres h h' → h.next ≤ mid → mid ≤ h'.next → SlO h.next mid h' vv' f.vars → SlO mid h'.next h' sv' f.stack → R (.ret (.agg (Row.cells (f, vv', sv')))) h') : callF E (sems E (k + 40)) 37 [.agg (Row.cells (f, vv, sv))] h R := by
  refine call_in (k := k + 39) hE.mono (hE.none 37 (by decide)) (by rw [hE.ft]; rfl) rfl rfl ?_
  show (sems E (k + 39)).code _ fn37.body ⟨[.agg (Row.cells (f, vv, sv)), .tup [], .tup []], [], [], h⟩ (EndQ [.cell 2 true 18] R)
  have p1 : Pres h ((h.push (.cells (Row.cells (f, vv, sv)))).push (.cells zrow)) := (Pres.push w _).trans (Pres.push (Pres.push w _).wf _)
  have g1 : ((h.push (.cells (Row.cells (f, vv, sv)))).push (.cells zrow)).get h.next = some (.cells (Row.cells (f, vv, sv))) := by
    rw [H.get_push, if_neg (show ¬ h.next = (h.push _).next from Nat.ne_of_lt (Nat.lt_succ_self _)), H.get_push, if_pos rfl]
  have r1 := rd_of (o := 14) (n := 1) g1 (Nat.le_of_ble_eq_true rfl)
  have r2 := rd_of (o := 15) (n := 1) g1 (Nat.le_of_ble_eq_true rfl)
  rw [show ((Row.cells (f, vv, sv)).drop 14).take 1 = [vv] from rfl] at r1
  rw [show ((Row.cells (f, vv, sv)).drop 15).take 1 = [sv] from rfl] at r2
  simp only [fn37, ↓q_region, ↓q_nil, q_putL, q_putT, q_evl, q_evt, q_mapsome, evOp, List.getD_cons_zero, List.getD_cons_succ, List.set_cons_zero, List.set_cons_succ, if_true, if_false, Bool.false_eq_true, Nat.zero_add, p_agg, ↓q_draw, eq_self, H.next_push, r_faddr, ↓z_seq, ↓z_snrm, ↓z_some, ↓z_dsome, ↓z_alloc, ↓z_box, ↓zd_load, ↓zd_faddr]
  rw [show ([.int .i64 0, .int .i64 0, .int .i64 0, .int .i64 0, .int .i64 0, .int .i64 0, .int .i64 0, .str [], .int .i64 0, .int .i64 0, .int .i64 0, .int .i64 0, .int .i64 0, .str [], .nils, .nils, .int .i64 0, .int .i64 0] : List V) = zrow from rfl]
  have e1 : ((h.push (.cells (Row.cells (f, vv, sv)))).push (.cells zrow)).next = h.next + 2 := rfl
  have g2 : ((h.push (.cells (Row.cells (f, vv, sv)))).push (.cells zrow)).get (h.next + 1) = some (.cells zrow) := by rw [H.get_push, if_pos (show h.next + 1 = (h.push _).next from rfl)]
  generalize (h.push (.cells (Row.cells (f, vv, sv)))).push (.cells zrow) = h1 at *
  have w1 := p1.wf
  simp only [q_putT, q_evl, q_evt, q_evf, q_mapsome, evOp, List.getD_cons_zero, List.getD_cons_succ, if_true, if_false, Nat.reduceEqDiff, List.map_cons, List.map_nil, Bool.false_eq_true, List.nil_append, List.append_nil, Nat.zero_add, List.all_cons, List.all_nil, eq_self, r_load, r_faddr, Bool.and_true, ↓z_span, ↓z_dsome, ↓z_dcall, ↓zd_load, ↓zd_store, ↓zd_faddr, r1, r2, callV]
  refine clone38 hE (k := k + 16) w1 (r.1.pres w p1) hb1 ?_
  intro v2 h2 p2 o2
  have r2' := rd_pres w1 p2 r2
  have r1' := rd_pres w1 p2 r1
  simp only [q_evt, q_mapsome, evOp, if_true, if_false, Nat.reduceEqDiff, Bool.false_eq_true, true_and, Bool.and_self, eq_self, Bool.true_or, Bool.or_true, show Nat.testBit 3 4 = false from rfl, show Nat.testBit 3 1 = true from rfl, Rec.again, r2', V.beq_refl]
  refine clone38 hE (k := k + 16) p2.wf (r.2.pres w (p1.trans p2)) hb2 ?_
  intro v3 h3 p3 o3
  have hn1 : h.next < h1.next := by have := e1; omega
  have g3 : h3.get h.next = some (.cells (Row.cells (f, vv, sv))) := by
    rw [p3.same _ (by have := p2.next; omega), p2.same _ hn1, g1]
  have wr1 := wr_of (o := 14) (vs := [v2]) g3 (Nat.le_of_ble_eq_true rfl)
  rw [show (Row.cells (f, vv, sv)).take 14 ++ ([v2] ++ (Row.cells (f, vv, sv)).drop (14 + [v2].length)) = Row.cells (f, v2, sv) from rfl] at wr1
  have c2 := o2.cellOK
  have c3 := o3.cellOK
  have g4 : (h3.set h.next (.cells (Row.cells (f, v2, sv)))).get h.next = some (.cells (Row.cells (f, v2, sv))) := by rw [H.get_set, if_pos rfl]
  have wr2 := wr_of (o := 15) (vs := [v3]) g4 (Nat.le_of_ble_eq_true rfl)
  rw [show (Row.cells (f, v2, sv)).take 15 ++ ([v3] ++ (Row.cells (f, v2, sv)).drop (15 + [v3].length)) = Row.cells (f, v2, v3) from rfl] at wr2
  simp only [↓q_region, q_putT, q_putN, q_evl, q_evt, q_mapsome, evOp, List.getD_cons_zero, List.getD_cons_succ, if_true, if_false, Nat.reduceEqDiff, Bool.false_eq_true, List.length_cons, List.length_nil, Nat.zero_add, and_self, true_and, List.all_cons, List.all_nil, Bool.and_self, ↓d_nil, eq_self, Bool.true_or, r_faddr, ↓z_seq, ↓z_snrm, ↓z_dsome, ↓z_fsome, ↓z_load, ↓zd_store, ↓zd_faddr, show Nat.testBit 31 4 = true from rfl, show Nat.testBit 31 1 = true from rfl, show Nat.testBit 127 4 = true from rfl, show Nat.testBit 127 1 = true from rfl, show Nat.testBit 511 4 = true from rfl, show Nat.testBit 511 1 = true from rfl, p_ok c2, p_ok c3, c2, c3, wr1, wr2]
  have g5 : ((h3.set h.next (.cells (Row.cells (f, v2, sv)))).set h.next (.cells (Row.cells (f, v2, v3)))).get h.next = some (.cells (Row.cells (f, v2, v3))) := by rw [H.get_set, if_pos rfl]
  have g6 : ((h3.set h.next (.cells (Row.cells (f, v2, sv)))).set h.next (.cells (Row.cells (f, v2, v3)))).get (h.next + 1) = some (.cells zrow) := by
    rw [H.get_set, if_neg (by omega), H.get_set, if_neg (by omega), p3.same _ (by have := p2.next; omega), p2.same _ (by omega), g2]
  have r5 := rd_of (o := 0) (n := 18) g5 (Nat.le_of_ble_eq_true rfl)
  rw [show ((Row.cells (f, v2, v3)).drop 0).take 18 = Row.cells (f, v2, v3) from rfl] at r5
  have wr3 := wr_of (o := 0) (vs := Row.cells (f, v2, v3)) g6 (Nat.le_of_ble_eq_true rfl)
  rw [show zrow.take 0 ++ (Row.cells (f, v2, v3) ++ zrow.drop (0 + (Row.cells (f, v2, v3)).length)) = Row.cells (f, v2, v3) from rfl] at wr3
  have hrc : (Row.cells (f, v2, v3)).all V.cellOK = true := by
    simp only [Row.cells, SV.cells, List.cons_append, List.nil_append, List.all_cons, List.all_nil, c_int, c_str, c2, c3, Bool.and_self]
  have hrl : (Row.cells (f, v2, v3)).length = 18 := rfl
  have p5 : Pres h (((h3.set h.next (.cells (Row.cells (f, v2, sv)))).set h.next (.cells (Row.cells (f, v2, v3)))).set (h.next + 1) (.cells (Row.cells (f, v2, v3)))) := by
    have pp := (p1.trans (p2.trans p3))
    have e3 : h.next + 2 ≤ h3.next := by have := p2.next; have := p3.next; omega
    exact ((pp.set (Nat.le_refl _) (by omega) _).set (Nat.le_refl _) (by show _ < h3.next; omega) _).set (Nat.le_succ _) (by show _ < h3.next; omega) _
  have o2' : SlO h1.next h2.next (((h3.set h.next (.cells (Row.cells (f, v2, sv)))).set h.next (.cells (Row.cells (f, v2, v3)))).set (h.next + 1) (.cells (Row.cells (f, v2, v3)))) v2 f.vars :=
    (((o2.pres p2.wf p3).set (.inl hn1) _).set (.inl hn1) _).set (.inl (by omega)) _
  have o3' : SlO h2.next h3.next (((h3.set h.next (.cells (Row.cells (f, v2, sv)))).set h.next (.cells (Row.cells (f, v2, v3)))).set (h.next + 1) (.cells (Row.cells (f, v2, v3)))) v3 f.stack :=
    ((o3.set (.inl (by have := p2.next; omega)) _).set (.inl (by have := p2.next; omega)) _).set (.inl (by have := p2.next; omega)) _
  have r7 := rd_of (o := 0) (n := 18) (show (((h3.set h.next (.cells (Row.cells (f, v2, sv)))).set h.next (.cells (Row.cells (f, v2, v3)))).set (h.next + 1) (.cells (Row.cells (f, v2, v3)))).get (h.next + 1) = some (.cells (Row.cells (f, v2, v3))) from by rw [H.get_set, if_pos rfl]) (Nat.le_of_ble_eq_true rfl)
  rw [show ((Row.cells (f, v2, v3)).drop 0).take 18 = Row.cells (f, v2, v3) from rfl] at r7
  simp only [↓q_ret, ↓q_nil, q_putT, q_putN, q_evl, q_evt, q_mapsome, evOp, List.getD_cons_zero, List.getD_cons_succ, if_true, and_self, p_agg, eq_self, ↓z_snrm, ↓z_some, ↓z_store, r5, hrl, hrc, wr3]
  refine ⟨rfl, .agg (Row.cells (f, v2, v3)), ?_, hR v2 v3 _ h2.next p5 (by have := p2.next; omega) (by have := p3.next; exact this) (o2'.wide (by omega) (Nat.le_refl _)) o3'⟩
  simp only [resAll, resList, resOf, List.getElem?_cons_succ, List.getElem?_cons_zero, if_true, r7, Option.map_some]
end Go.Abs.Sy

namespace Go.Abs.Sy
open Go.Abs

variable {E : Env}

theorem wrap_small {x : Int} (h0 : 0 ≤ x) (h1 : x < 9223372036854775808) : IntKind.wrap .i64 x = x := by
  have e1 : IntKind.bits .i64 = 64 := rfl
  have e2 : IntKind.signed .i64 = true := rfl
  unfold IntKind.wrap
  rw [e1, e2]
  have : x % (2 ^ 64 : Int) = x := Int.emod_eq_of_lt h0 (by omega)
  simp only [this, Bool.true_and]
  rw [if_neg (by simp only [ge_iff_le, decide_eq_true_eq]; omega)]

def blkOf : V → List Nat
  | .sl b _ _ _ => [b]
  | _ => []
def blks (g : List Row) : List Nat := g.flatMap fun r => blkOf r.2.1 ++ blkOf r.2.2
theorem blks_append (a b : List Row) : blks (a ++ b) = blks a ++ blks b := List.flatMap_append

theorem SlO.blk {lo hi : Nat} {h : H} {v : V} {l : List SV} (r : SlO lo hi h v l) : ∀ b ∈ blkOf v, lo ≤ b ∧ b < hi := by
  rcases r with ⟨rfl, _⟩ | ⟨b, cap, rfl, h1, h2, _⟩
  · intro b hb; cases hb
  · intro c hc; rw [List.mem_singleton.1 hc]; exact ⟨h1, h2⟩
theorem SlO.nodup {lo hi : Nat} {h : H} {v : V} {l : List SV} (r : SlO lo hi h v l) : (blkOf v).Nodup := by
  rcases r with ⟨rfl, _⟩ | ⟨b, cap, rfl, _⟩
  · exact List.Pairwise.nil
  · exact List.pairwise_singleton _ _

/-- rows whose lists lie in blocks of their own, from lo on -/
structure OwnR (lo : Nat) (h : H) (g : List Row) : Prop where
  row : ∀ r ∈ g, SlO lo h.next h r.2.1 r.1.vars ∧ SlO lo h.next h r.2.2 r.1.stack
  nd : (blks g).Nodup

theorem OwnR.blk {lo : Nat} {h : H} {g : List Row} (o : OwnR lo h g) : ∀ b ∈ blks g, lo ≤ b ∧ b < h.next := by
  intro b hb
  obtain ⟨r, hr, hb⟩ := List.mem_flatMap.1 hb
  rcases List.mem_append.1 hb with hb | hb
  · exact (o.row r hr).1.blk b hb
  · exact (o.row r hr).2.blk b hb

theorem OwnR.pres {lo : Nat} {h h' : H} (w : WF h) (p : Pres h h') {g : List Row} (o : OwnR lo h g) : OwnR lo h' g :=
  ⟨fun r hr => ⟨((o.row r hr).1.pres w p).wide (Nat.le_refl _) p.next, ((o.row r hr).2.pres w p).wide (Nat.le_refl _) p.next⟩, o.nd⟩

theorem OwnR.snoc {lo mid n : Nat} {h : H} {g : List Row} (o : OwnR lo h g) (ho : ∀ b ∈ blks g, b < n) (hn : lo ≤ n) (hm : mid ≤ h.next) (hnm : n ≤ mid) {r : Row} (h1 : SlO n mid h r.2.1 r.1.vars) (h2 : SlO mid h.next h r.2.2 r.1.stack) : OwnR lo h (g ++ [r]) := by
  refine ⟨fun x hx => ?_, ?_⟩
  · rcases List.mem_append.1 hx with hx | hx
    · exact o.row x hx
    · rw [List.mem_singleton.1 hx]
      exact ⟨h1.wide hn hm, h2.wide (by omega) (Nat.le_refl _)⟩
  · rw [blks_append]
    have e : blks [r] = blkOf r.2.1 ++ blkOf r.2.2 := by unfold blks; rw [List.flatMap_cons, List.flatMap_nil, List.append_nil]
    rw [e, List.nodup_append]
    refine ⟨o.nd, ?_, ?_⟩
    · rw [List.nodup_append]
      refine ⟨h1.nodup, h2.nodup, ?_⟩
      intro a ha b hb
      have := (h1.blk a ha).2; have := (h2.blk b hb).1; omega
    · intro a ha b hb
      have ha := ho a ha
      rcases List.mem_append.1 hb with hb | hb
      · have := (h1.blk b hb).1; omega
      · have := (h2.blk b hb).1; omega

theorem OwnR.set {lo : Nat} {h : H} {g : List Row} (o : OwnR lo h g) {b : Nat} (hb : b ∉ blks g) (ob : O) : OwnR lo (h.set b ob) g := by
  have one : ∀ (v : V) (l : List SV), SlO lo h.next h v l → b ∉ blkOf v → SlO lo (h.set b ob).next (h.set b ob) v l := by
    intro v l r hn
    rcases r with r | ⟨c, cap, rfl, h1, h2, hg⟩
    · exact .inl r
    · refine .inr ⟨c, cap, rfl, h1, h2, ?_⟩
      rw [H.get_set, if_neg (fun e => hn (by rw [← e]; exact List.mem_singleton.2 rfl))]
      exact hg
  refine ⟨fun r hr => ⟨one _ _ (o.row r hr).1 fun q => hb ?_, one _ _ (o.row r hr).2 fun q => hb ?_⟩, o.nd⟩
  · exact List.mem_flatMap.2 ⟨r, hr, List.mem_append_left _ q⟩
  · exact List.mem_flatMap.2 ⟨r, hr, List.mem_append_right _ q⟩

/-- a frames' slice of its own -/
def OutR (lo : Nat) (h : H) (v : V) (g : List Row) : Prop := OwnR lo h g ∧ ((v = .nils ∧ g = []) ∨ ∃ b, v = .sl b 0 g.length (.u 18) ∧ lo ≤ b ∧ b < h.next ∧ b ∉ blks g ∧ h.get b = some (.cells (rows g)))

theorem OutR.fsR {lo : Nat} {h : H} {v : V} {g : List Row} (o : OutR lo h v g) : FsR h v g := by
  refine ⟨?_, fun r hr => ⟨(o.1.row r hr).1.slR, (o.1.row r hr).2.slR⟩⟩
  rcases o.2 with r | ⟨b, rfl, _, _, _, hg⟩
  · exact .inl r
  · refine .inr ⟨b, 0, _, rfl, ?_⟩
    rw [rd_of hg (by rw [rows_length]; omega), List.drop_zero, List.take_of_length_le (by rw [rows_length]; omega)]

def eachB : ACode := match fn36.body with
  | .seq _ (.seq _ (.seq (.seq _ (.block _ (.loop b))) _)) => b
  | _ => .skip

def fits20 (g : List Row) : Prop := g.length ≤ 1048576 ∧ ∀ r ∈ g, r.1.vars.length ≤ 1048576 ∧ r.1.stack.length ≤ 1048576

theorem Row.all {h : H} {r : Row} (x : RowR h r) : r.cells.all V.cellOK = true := by
  obtain ⟨f, vv, sv⟩ := r
  have c2 := x.1.cellOK
  have c3 := x.2.cellOK
  simp only [Row.cells, SV.cells, List.cons_append, List.nil_append, List.all_cons, List.all_nil, c_int, c_str, c2, c3, Bool.and_self]

theorem push_wr {h : H} {c vs : List V} (hl : c.length = vs.length) : (h.push (.cells c)).wr h.next 0 vs = some ((h.push (.cells c)).set h.next (.cells vs)) := by
  rw [wr_of (by rw [H.get_push, if_pos rfl]) (by omega), List.take_zero, List.nil_append, Nat.zero_add, ← hl, List.drop_length, List.append_nil]

theorem eachLoop (hE : Env0 E) {h : H} (w : WF h) {v : V} {g : List Row} (fs : FsR h v g) (hf : fits20 g) {cx : Cx} {Q : X → St → Prop}
    (hQ : ∀ g' out loc tl hh, Pres h hh → OutR h.next hh out g' → g'.map (·.1) = g.map (·.1) → loc[3]? = some out → Q (.exit 0) ⟨loc, tl, [], hh⟩) (k : Nat) :
    ∀ (n i : Nat) (g' : List Row) (out a4 : V) (tl : List (Nat × V)) (hh : H), i + n = g.length → Pres h hh → OutR h.next hh out g' → g'.map (·.1) = (g.take i).map (·.1) →
      (sems E (k + n + 60)).code cx (.loop eachB) ⟨[v, .fn (.func 37) [] [], .nils, out, a4, v, .int .i64 g.length, .int .i64 i], tl, [], hh⟩ Q := by
  intro n
  induction n with
  | zero =>
    intro i g' out a4 tl hh hi p o hg
    rw [show k + 0 + 60 = (k + 59) + 1 from by omega]
    refine loop_code ?_
    have hlt : decide ((i : Int) < (g.length : Int)) = false := by simp only [decide_eq_false_iff_not]; omega
    simp only [eachB, fn36, ↓q_region, ↓q_exit, ↓q_cond, ↓q_nil, q_putT, q_evl, q_evt, q_mapsome, evOp, List.getD_cons_zero, List.getD_cons_succ, if_true, if_false, Bool.false_eq_true, eq_self, b_lss, ↓z_seq, ↓z_snrm, ↓z_sexit, ↓z_some, ↓z_bin, hlt]
    refine hQ g' out _ _ hh p o ?_ rfl
    rw [hg, List.take_of_length_le (by omega)]
  | succ n ih =>
    intro i g' out a4 tl hh hi p o hg
    rw [show k + (n + 1) + 60 = (k + n + 60) + 1 from by omega]
    refine loop_code ?_
    have hlt : decide ((i : Int) < (g.length : Int)) = true := by simp only [decide_eq_true_eq]; omega
    obtain ⟨r, hr⟩ : ∃ r, g[i]? = some r := ⟨g[i], List.getElem?_eq_getElem (by omega)⟩
    have hrm : r ∈ g := List.mem_of_getElem? hr
    obtain ⟨b, ob, cap, rfl, hrd⟩ : ∃ b ob cap, v = .sl b ob g.length cap ∧ h.rd b ob (g.length * 18) = some (rows g) := by
      rcases fs.1 with ⟨_, e⟩ | x
      · rw [e] at hr; simp at hr
      · exact x
    have hc : ((0 : Int) ≤ (i : Int) ∧ (i : Int) < (g.length : Int)) = True := by simp only [eq_iff_iff, iff_true]; omega
    have hr1 := rd_pres w p (rd_row hrd hr)
    obtain ⟨f, vv, sv⟩ := r
    have hrr := fs.2 _ hrm
    have hfr := hf.2 _ hrm
    have hra := Row.all hrr
    have hwr : IntKind.wrap .i64 ((i : Int) + 1) = ((i + 1 : Nat) : Int) := by
      rw [wrap_small (by omega) (by have := hf.1; omega)]; omega
    generalize hIH : (sems E (k + n + 60)) = S at ih
    have hpw := push_wr (h := hh) (c := [.int .i64 0, .int .i64 0, .int .i64 0, .int .i64 0, .int .i64 0, .int .i64 0, .int .i64 0, .str [], .int .i64 0, .int .i64 0, .int .i64 0, .int .i64 0, .int .i64 0, .str [], .nils, .nils, .int .i64 0, .int .i64 0]) (vs := Row.cells (f, vv, sv)) rfl
    have p2 := (Pres.push p.wf (.cells [.int .i64 0, .int .i64 0, .int .i64 0, .int .i64 0, .int .i64 0, .int .i64 0, .int .i64 0, .str [], .int .i64 0, .int .i64 0, .int .i64 0, .int .i64 0, .int .i64 0, .str [], .nils, .nils, .int .i64 0, .int .i64 0])).set (Nat.le_refl _) (Nat.lt_succ_self _) (.cells (Row.cells (f, vv, sv)))
    have hrd2 : ((hh.push (.cells [.int .i64 0, .int .i64 0, .int .i64 0, .int .i64 0, .int .i64 0, .int .i64 0, .int .i64 0, .str [], .int .i64 0, .int .i64 0, .int .i64 0, .int .i64 0, .int .i64 0, .str [], .nils, .nils, .int .i64 0, .int .i64 0])).set hh.next (.cells (Row.cells (f, vv, sv)))).rd hh.next 0 18 = some (Row.cells (f, vv, sv)) :=
      (rd_of (by rw [H.get_set, if_pos rfl]) (by rw [Row.len]; omega)).trans (by rw [List.drop_zero, List.take_of_length_le (by rw [Row.len]; omega)])
    have hn2 : ((hh.push (.cells [.int .i64 0, .int .i64 0, .int .i64 0, .int .i64 0, .int .i64 0, .int .i64 0, .int .i64 0, .str [], .int .i64 0, .int .i64 0, .int .i64 0, .int .i64 0, .int .i64 0, .str [], .nils, .nils, .int .i64 0, .int .i64 0])).set hh.next (.cells (Row.cells (f, vv, sv)))).next = hh.next + 1 := rfl
    rw [← hIH]
    generalize hK : (fun (x : X) (st' : St) => (match x with | .nrm => (sems E (k + n + 60)).code cx (.loop eachB) st' Q | x => Q x st' : Prop)) = K
    simp only [eachB, fn36, ↓q_region, ↓q_skip, ↓q_cond, ↓q_nil, q_putL, q_putT, q_putN, q_evl, q_evt, q_mapsome, evOp, List.getD_cons_zero, List.getD_cons_succ, List.set_cons_zero, List.set_cons_succ, if_true, if_false, Nat.reduceEqDiff, and_self, p_agg, eq_self, b_lss, Int.toNat_natCast, ↓z_seq, ↓z_block, ↓z_snrm, ↓z_some, ↓z_mv, ↓z_alloc, ↓z_load, ↓z_store, ↓z_bin, ↓z_iaddr, hlt, hc, hr1, Row.len, hra, hpw]
    generalize ((hh.push (.cells [.int .i64 0, .int .i64 0, .int .i64 0, .int .i64 0, .int .i64 0, .int .i64 0, .int .i64 0, .str [], .int .i64 0, .int .i64 0, .int .i64 0, .int .i64 0, .int .i64 0, .str [], .nils, .nils, .int .i64 0, .int .i64 0])).set hh.next (.cells (Row.cells (f, vv, sv)))) = h2 at *
    simp only [q_putT, q_evt, q_mapsome, evOp, if_true, if_false, Nat.reduceEqDiff, List.map_cons, List.map_nil, List.length_cons, List.length_nil, List.take_zero, List.nil_append, List.append_nil, Nat.reduceAdd, Nat.zero_add, fill, eq_self, ↓z_span, ↓z_bpan, ↓z_some, ↓z_call, ↓z_bslice, hrd2, callV]
    have w2 := p2.wf
    have pp := p.trans p2
    refine copy37 hE (k := k + n + 14) w2 (hrr.pres w pp) hfr.1 hfr.2 ?_
    intro v2 v3 h3 mid p3 m1 m2 o2 o3
    have g4 : (h3.push (.cells (Row.cells (f, v2, v3)))).get h3.next = some (.cells (Row.cells (f, v2, v3))) := by rw [H.get_push, if_pos rfl]
    have r4 : (h3.push (.cells (Row.cells (f, v2, v3)))).rd h3.next 0 18 = some (Row.cells (f, v2, v3)) :=
      (rd_of g4 (by rw [Row.len]; omega)).trans (by rw [List.drop_zero, List.take_of_length_le (by rw [Row.len]; omega)])
    have p4 : Pres h (h3.push (.cells (Row.cells (f, v2, v3)))) := (pp.trans p3).trans (Pres.push p3.wf _)
    have p34 : Pres hh (h3.push (.cells (Row.cells (f, v2, v3)))) := (p2.trans p3).trans (Pres.push p3.wf _)
    have ra : (Row.cells (f, v2, v3)).all V.cellOK = true := by
      have c2 := o2.cellOK
      have c3 := o3.cellOK
      simp only [Row.cells, SV.cells, List.cons_append, List.nil_append, List.all_cons, List.all_nil, c_int, c_str, c2, c3, Bool.and_self]
    have hg' : g'.length = i := by
      have := congrArg List.length hg
      rw [List.length_map, List.length_map, List.length_take] at this; omega
    have hroom : roomOK (g'.length + 1) 192 = true := by
      simp only [roomOK, decide_eq_true_eq]; have := hf.1; omega
    have hg2 : (g' ++ [(f, v2, v3)]).map (·.1) = (g.take (i + 1)).map (·.1) := by
      rw [List.map_append, hg, List.take_add_one, hr, List.map_append]; rfl
    -- the lists' blocks, wherever the row comes to lie
    have own : ∀ h5, h3.next + 1 ≤ h5.next → OwnR h.next h5 g' → SlO h2.next mid h5 v2 f.vars → SlO mid h3.next h5 v3 f.stack → OwnR h.next h5 (g' ++ [(f, v2, v3)]) := by
      intro h5 hn5 o5 s2 s3
      refine o5.snoc (n := h2.next) (mid := mid) ?_ ?_ (by omega) m1 s2 (s3.wide (Nat.le_refl _) (by omega))
      · intro b hb
        have := (o.1.blk b hb).2
        omega
      · have := p.next; omega
    have ap : ∃ h5, appendV 18 192 out 1 (Row.cells (f, v2, v3)) (h3.push (.cells (Row.cells (f, v2, v3)))) = some (.sl (h3.next + 1) 0 (g'.length + 1) (.u 18), h5) ∧ Pres h h5 ∧ OutR h.next h5 (.sl (h3.next + 1) 0 (g'.length + 1) (.u 18)) (g' ++ [(f, v2, v3)]) := by
      rcases o.2 with ⟨rfl, rfl⟩ | ⟨B, rfl, b1, b2, b3, b4⟩
      · refine ⟨_, app_nils (by omega) ra hroom, p4.trans (Pres.push p4.wf _), ?_, .inr ⟨h3.next + 1, rfl, ?_, ?_, ?_, ?_⟩⟩
        · exact own _ (by show _ ≤ h3.next + 1 + 1; omega) ⟨(fun r hr => by cases hr), List.Pairwise.nil⟩ ((o2.pres p3.wf (Pres.push p3.wf _)).pres p4.wf (Pres.push p4.wf _)) ((o3.pres p3.wf (Pres.push p3.wf _)).pres p4.wf (Pres.push p4.wf _))
        · have := p4.next; exact this
        · show _ < h3.next + 1 + 1; omega
        · intro hb
          have e : blks ([] ++ [(f, v2, v3)]) = blkOf v2 ++ blkOf v3 := by unfold blks; simp
          rw [e] at hb
          rcases List.mem_append.1 hb with hb | hb
          · have := (o2.blk _ hb).2; omega
          · have := (o3.blk _ hb).2; omega
        · rw [H.get_push, if_pos (show h3.next + 1 = (h3.push _).next from rfl)]
          unfold rows; simp
      · have hB3 : B < h3.next := by have := p2.next; have := p3.next; omega
        have gB : (h3.push (.cells (Row.cells (f, v2, v3)))).get B = some (.cells (rows g')) := by rw [p34.same B b2]; exact b4
        have rB : (h3.push (.cells (Row.cells (f, v2, v3)))).rd B 0 (g'.length * 18) = some (rows g') :=
          (rd_of gB (by rw [rows_length]; omega)).trans (by rw [List.drop_zero, List.take_of_length_le (by rw [rows_length]; omega)])
        have pd : Pres h ((h3.push (.cells (Row.cells (f, v2, v3)))).set B .dead) := p4.set b1 (by show B < h3.next + 1; omega) _
        refine ⟨_, app_u (by omega) ra hroom rB gB, pd.trans (Pres.push pd.wf _), ?_, .inr ⟨h3.next + 1, by rw [List.length_append]; rfl, ?_, ?_, ?_, ?_⟩⟩
        · have oB := (o.1.pres p.wf p34).set b3 O.dead
          have hlt2 : B < h2.next := by omega
          refine own _ (by show _ ≤ h3.next + 1 + 1; omega) (oB.pres pd.wf (Pres.push pd.wf _)) ?_ ?_
          · exact (((o2.pres p3.wf (Pres.push p3.wf _)).set (.inl hlt2) _)).pres pd.wf (Pres.push pd.wf _)
          · exact (((o3.pres p3.wf (Pres.push p3.wf _)).set (.inl (by omega)) _)).pres pd.wf (Pres.push pd.wf _)
        · have := p4.next; exact this
        · show _ < h3.next + 1 + 1; omega
        · intro hb
          rw [blks_append] at hb
          have e : blks [(f, v2, v3)] = blkOf v2 ++ blkOf v3 := by unfold blks; simp
          rw [e] at hb
          rcases List.mem_append.1 hb with hb | hb
          · have := (o.1.blk _ hb).2; have := p2.next; have := p3.next; omega
          · rcases List.mem_append.1 hb with hb | hb
            · have := (o2.blk _ hb).2; omega
            · have := (o3.blk _ hb).2; omega
        · rw [H.get_push, if_pos (show h3.next + 1 = ((h3.push _).set B _).next from rfl), rows_append]
          unfold rows; simp
    obtain ⟨h5, ap1, p5, o5⟩ := ap
    simp only [↓q_region, ↓q_nil, q_putL, q_putT, q_evl, q_evt, q_evc, q_mapsome, evOp, List.getD_cons_zero, List.getD_cons_succ, List.set_cons_zero, List.set_cons_succ, if_true, if_false, Nat.reduceEqDiff, List.length_cons, List.length_nil, List.drop_succ_cons, List.append_nil, Nat.reduceAdd, Nat.reduceMul, Nat.zero_add, and_self, Nat.le_refl, p_agg, eq_self, b_add, ↓z_snrm, ↓z_bnrm, ↓z_some, ↓z_mv, ↓z_bin, ↓z_append, Row.len, reps, List.drop_nil, srcOf, r4, ap1, hwr]
    rw [← hK]
    dsimp only
    rw [hIH]
    exact ih (i + 1) _ _ _ _ _ (by omega) p5 o5 hg2

theorem each36 (hE : Env0 E) {h : H} (w : WF h) {v : V} {g : List Row} (fs : FsR h v g) (hf : fits20 g) {R : Ret → H → Prop}
    (hR : ∀ v' g' h', Pres h h' → OutR h.next h' v' g' → g'.map (·.1) = g.map (·.1) → R (.ret v') h') (k : Nat) : callF E (sems E (k + g.length + 66)) 36 [v, .fn (.func 37) [] []] h R := by
  rw [show k + g.length + 66 = (k + g.length + 65) + 1 from by omega]
  refine call_in hE.mono (hE.none 36 (by decide)) (by rw [hE.ft]; rfl) rfl rfl ?_
  show (sems E (k + g.length + 65)).code _ fn36.body ⟨[v, .fn (.func 37) [] [], .tup [], .tup [], .tup [], .tup [], .tup [], .tup []], [], [], h⟩ (EndQ [.loc 2] R)
  have hl := fs.len
  have hb : fn36.body = .seq (.region [⟨.l 2, .mv (.c .nils), none, 0⟩]) (.seq (.region [⟨.l 3, .mv (.c .nils), none, 0⟩]) (.seq (.seq (.region [⟨.l 5, .mv (.l 0), none, 0⟩, ⟨.l 6, .len .sl (.l 5), none, 0⟩, ⟨.l 7, .mv (.c (.int .i64 0)), none, 0⟩]) (.block 0 (.loop eachB))) (.seq (.region [⟨.t 21, .mv (.l 3), none, 0⟩, ⟨.l 2, .mv (.t 21), none, 0⟩]) .ret))) := rfl
  rw [hb]
  simp only [↓q_region, ↓q_nil, q_putL, q_evl, q_evc, q_mapsome, evOp, List.getD_cons_zero, List.getD_cons_succ, List.set_cons_zero, List.set_cons_succ, if_true, eq_self, ↓z_seq, ↓z_block, ↓z_snrm, ↓z_some, ↓z_mv, ↓z_len, hl.1, hl.2]
  refine eachLoop hE w fs hf ?_ k g.length 0 [] .nils (.tup []) _ h (by omega) (Pres.refl w) ⟨⟨(fun r hr => by cases hr), List.Pairwise.nil⟩, .inl ⟨rfl, rfl⟩⟩ rfl
  intro g' out loc tl hh p o hg h3
  simp only [↓q_region, ↓q_ret, ↓q_nil, q_putL, q_putT, q_evl, q_evt, evOp, if_true, eq_self, ↓z_seq, ↓z_snrm, ↓z_sexit, ↓z_bexit, ↓z_some, ↓z_mv, List.getD_eq_getElem?_getD, h3, Option.getD_some]
  refine ⟨rfl, out, ?_, hR out g' hh p o hg⟩
  have hlen : 3 < loc.length := (List.getElem?_eq_some_iff.1 h3).1
  simp only [resAll, resList, resOf, List.getElem?_set_self (show 2 < loc.length by omega), Option.map_some]

theorem copied16 (hE : Env0 E) {h : H} (w : WF h) {v : V} {g : List Row} (fs : FsR h v g) (hf : fits20 g) {R : Ret → H → Prop}
    (hR : ∀ v' g' h', Pres h h' → OutR h.next h' v' g' → g'.map (·.1) = g.map (·.1) → R (.ret v') h') (k : Nat) : callF E (sems E (k + g.length + 70)) 16 [v] h R := by
  rw [show k + g.length + 70 = (k + g.length + 69) + 1 from by omega]
  refine call_in hE.mono (hE.none 16 (by decide)) (by rw [hE.ft]; rfl) rfl rfl ?_
  show (sems E (k + g.length + 69)).code _ fn16.body ⟨[v, .tup []], [], [], h⟩ (EndQ [.loc 1] R)
  simp only [fn16, ↓q_region, ↓q_ret, ↓q_nil, q_putL, q_putT, q_evl, q_evt, q_evc, q_evf, evOp, List.getD_cons_zero, List.set_cons_zero, List.set_cons_succ, if_true, if_false, Nat.reduceEqDiff, List.map_cons, List.map_nil, List.nil_append, List.append_nil, eq_self, ↓z_seq, ↓z_snrm, ↓z_span, ↓z_some, ↓z_call, ↓z_mv, callV]
  refine each36 hE w fs hf ?_ k
  intro v' g' h' p o hg
  simp only []
  exact ⟨rfl, v', rfl, hR v' g' h' p o hg⟩
end Go.Abs.Sy

namespace Go.Abs.Sy
open Go.Abs

variable {E : Env}

theorem FsR.at {h : H} {v : V} {g : List Row} (fs : FsR h v g) {i : Nat} {r : Row} (hr : g[i]? = some r) : ∃ b ob cap, v = .sl b ob g.length cap ∧ h.rd b (ob + i * 18) 18 = some r.cells := by
  rcases fs.1 with ⟨_, e⟩ | ⟨b, ob, cap, e, hrd⟩
  · rw [e] at hr; simp at hr
  · exact ⟨b, ob, cap, e, rd_row hrd hr⟩

theorem SlR.at {h : H} {v : V} {g : List SV} (fs : SlR h v g) {i : Nat} {r : SV} (hr : g[i]? = some r) : ∃ b ob cap, v = .sl b ob g.length cap ∧ h.rd b (ob + i * 6) 6 = some r.cells := by
  rcases fs with ⟨_, e⟩ | ⟨b, ob, cap, e, hrd⟩
  · rw [e] at hr; simp at hr
  · exact ⟨b, ob, cap, e, rd_sv hrd hr⟩

def sizeB : ACode := match fn5.body with
  | .seq _ (.seq _ (.seq (.seq _ (.block _ (.loop b))) _)) => b
  | _ => .skip

theorem sizeLoop {h : H} {v : V} {g : List Row} (fs : FsR h v g) (hf : fits20 g) {cx : Cx} {Q : X → St → Prop}
    (hQ : ∀ loc tl x, loc[2]? = some (.int .i64 x) → Q (.exit 0) ⟨loc, tl, [], h⟩) (k : Nat) :
    ∀ (n i : Nat) (a1 : V) (x : Int) (tl : List (Nat × V)), i + n = g.length →
      (sems E (k + n + 30)).code cx (.loop sizeB) ⟨[v, a1, .int .i64 x, .int .i64 i], tl, [], h⟩ Q := by
  intro n
  induction n with
  | zero =>
    intro i a1 x tl hi
    rw [show k + 0 + 30 = (k + 29) + 1 from by omega]
    refine loop_code ?_
    have hlt : decide ((i : Int) < (g.length : Int)) = false := by simp only [decide_eq_false_iff_not]; omega
    simp only [sizeB, fn5, ↓q_region, ↓q_exit, ↓q_cond, ↓q_nil, q_putT, q_evl, q_evt, q_mapsome, evOp, List.getD_cons_zero, List.getD_cons_succ, if_true, if_false, Nat.reduceEqDiff, Bool.false_eq_true, eq_self, b_lss, ↓z_seq, ↓z_snrm, ↓z_sexit, ↓z_some, ↓z_mv, ↓z_bin, ↓z_len, fs.len.1, fs.len.2, hlt]
    exact hQ _ _ x rfl
  | succ n ih =>
    intro i a1 x tl hi
    rw [show k + (n + 1) + 30 = (k + n + 30) + 1 from by omega]
    refine loop_code ?_
    have hlt : decide ((i : Int) < (g.length : Int)) = true := by simp only [decide_eq_true_eq]; omega
    obtain ⟨⟨f, vv, sv⟩, hr⟩ : ∃ r, g[i]? = some r := ⟨g[i], List.getElem?_eq_getElem (by omega)⟩
    have hrr := fs.2 _ (List.mem_of_getElem? hr)
    have hl := fs.len
    obtain ⟨b, ob, cap, rfl, hrd⟩ := fs.at hr
    have hc : ((0 : Int) ≤ (i : Int) ∧ (i : Int) < (g.length : Int)) = True := by simp only [eq_iff_iff, iff_true]; omega
    have r14 := rd_part hrd 14 1 (by omega)
    rw [show ((Row.cells (f, vv, sv)).drop 14).take 1 = [vv] from rfl] at r14
    have r15 := rd_part hrd 15 1 (by omega)
    rw [show ((Row.cells (f, vv, sv)).drop 15).take 1 = [sv] from rfl] at r15
    have hwr : IntKind.wrap .i64 ((i : Int) + 1) = ((i + 1 : Nat) : Int) := by
      rw [wrap_small (by omega) (by have := hf.1; omega)]; omega
    generalize hK : (fun (x : X) (st' : St) => (match x with | .nrm => (sems E (k + n + 30)).code cx (.loop sizeB) st' Q | x => Q x st' : Prop)) = K
    simp only [sizeB, fn5, ↓q_region, ↓q_skip, ↓q_cond, ↓q_nil, q_putL, q_putT, q_evl, q_evt, q_evc, q_mapsome, evOp, List.getD_cons_zero, List.getD_cons_succ, List.set_cons_zero, List.set_cons_succ, if_true, if_false, Nat.reduceEqDiff, Bool.false_eq_true, ↓q_draw, ↓d_nil, eq_self, r_mv, r_load, r_bin, r_faddr, r_iaddr, r_len, b_lss, b_add, Int.toNat_natCast, ↓z_seq, ↓z_block, ↓z_snrm, ↓z_bnrm, ↓z_some, ↓z_dsome, ↓z_mv, ↓zd_mv, ↓zd_load, ↓z_bin, ↓zd_bin, ↓zd_faddr, ↓zd_iaddr, ↓z_len, ↓zd_len, hl.1, hl.2, hlt, hc, r14, r15, hrr.1.len.1, hrr.1.len.2, hrr.2.len.1, hrr.2.len.2, hwr]
    rw [← hK]
    exact ih (i + 1) _ _ _ (by omega)

theorem size5 (hE : Env0 E) {h : H} {v : V} {g : List Row} (fs : FsR h v g) (hf : fits20 g) {R : Ret → H → Prop}
    (hR : ∀ x, R (.ret (.int .i64 x)) h) (k : Nat) : callF E (sems E (k + g.length + 40)) 5 [v] h R := by
  rw [show k + g.length + 40 = (k + g.length + 39) + 1 from by omega]
  refine call_in hE.mono (hE.none 5 (by decide)) (by rw [hE.ft]; rfl) rfl rfl ?_
  show (sems E (k + g.length + 39)).code _ fn5.body ⟨[v, .tup [], .tup [], .tup []], [], [], h⟩ (EndQ [.loc 1] R)
  have hb : fn5.body = .seq (.region [⟨.l 1, .mv (.c (.int .i64 0)), none, 0⟩]) (.seq (.region [⟨.t 5, .mv (.l 0), none, 0⟩, ⟨.t 6, .len .sl (.t 5), none, 0⟩, ⟨.l 2, .mv (.t 6), none, 0⟩]) (.seq (.seq (.region [⟨.l 3, .mv (.c (.int .i64 0)), none, 0⟩]) (.block 0 (.loop sizeB))) (.seq (.region [⟨.t 28, .mv (.l 2), none, 0⟩, ⟨.l 1, .mv (.t 28), none, 0⟩]) .ret))) := rfl
  have hl := fs.len
  rw [hb]
  simp only [↓q_region, ↓q_nil, q_putL, q_putT, q_evl, q_evt, q_evc, q_mapsome, evOp, List.getD_cons_zero, List.set_cons_zero, List.set_cons_succ, if_true, if_false, Nat.reduceEqDiff, eq_self, ↓z_seq, ↓z_block, ↓z_snrm, ↓z_some, ↓z_mv, ↓z_len, hl.1, hl.2]
  rw [show k + g.length + 34 = (k + 4) + g.length + 30 from by omega]
  refine sizeLoop fs hf ?_ (k + 4) g.length 0 _ _ _ (by omega)
  intro loc tl x h2
  simp only [↓q_region, ↓q_ret, ↓q_nil, q_putL, q_putT, q_evl, q_evt, evOp, if_true, eq_self, ↓z_seq, ↓z_snrm, ↓z_sexit, ↓z_bexit, ↓z_some, ↓z_mv, List.getD_eq_getElem?_getD, h2, Option.getD_some]
  refine ⟨rfl, .int .i64 x, ?_, hR x⟩
  have hlen : 2 < loc.length := (List.getElem?_eq_some_iff.1 h2).1
  simp only [resAll, resList, resOf, List.getElem?_set_self (show 1 < loc.length by omega), Option.map_some]

theorem eqCells_cons {k : CK} {ks : List CK} {a b : V} {l m : List V} {t : Bool} (h : eqCell k a b = some t) : eqCells (k :: ks) (a :: l) (b :: m) = if t then eqCells ks l m else some false := by
  have e : eqCells (k :: ks) (a :: l) (b :: m) = (match eqCell k a b with | some true => eqCells ks l m | some false => some false | none => none) := rfl
  rw [e, h]
  cases t <;> rfl

theorem sv_eq (a b : SV) : eqD (.many [.int, .int, .int, .int, .int, .str]) (.agg a.cells) (.agg b.cells) = some (decide (a = b)) := by
  obtain ⟨a1, a2, a3, a4, a5, a6⟩ := a
  obtain ⟨b1, b2, b3, b4, b5, b6⟩ := b
  have hi : ∀ x y : Int, eqCell .int (.int .i64 x) (.int .i64 y) = some (x == y) := fun x y => rfl
  have hs : eqCell .str (.str a6) (.str b6) = some (a6 == b6) := rfl
  show (if [V.int .i64 a1, .int .i64 a2, .int .i64 a3, .int .i64 a4, .int .i64 a5, .str a6].length = 6 ∧ [V.int .i64 b1, .int .i64 b2, .int .i64 b3, .int .i64 b4, .int .i64 b5, .str b6].length = 6 then eqCells [.int, .int, .int, .int, .int, .str] [.int .i64 a1, .int .i64 a2, .int .i64 a3, .int .i64 a4, .int .i64 a5, .str a6] [.int .i64 b1, .int .i64 b2, .int .i64 b3, .int .i64 b4, .int .i64 b5, .str b6] else none) = _
  rw [if_pos ⟨rfl, rfl⟩, eqCells_cons (hi a1 b1), eqCells_cons (hi a2 b2), eqCells_cons (hi a3 b3), eqCells_cons (hi a4 b4), eqCells_cons (hi a5 b5), eqCells_cons hs]
  simp only [eqCells, SV.mk.injEq]
  by_cases h1 : a1 = b1 <;> by_cases h2 : a2 = b2 <;> by_cases h3 : a3 = b3 <;> by_cases h4 : a4 = b4 <;> by_cases h5 : a5 = b5 <;> by_cases h6 : a6 = b6 <;> simp [h1, h2, h3, h4, h5, h6]

def eqB : ACode := match fn20.body with
  | .seq _ (.seq _ (.seq (.seq _ (.block _ (.loop b))) _)) => b
  | _ => .skip

theorem eqLoop {h : H} {v u : V} {x y : List SV} (rx : SlR h v x) (ry : SlR h u y) (hxy : x.length = y.length) (hb : x.length ≤ 1048576) {cx : Cx} {Q : X → St → Prop}
    (hQ0 : x = y → ∀ loc tl, loc.length = 6 → Q (.exit 0) ⟨loc, tl, [], h⟩) (hQ1 : x ≠ y → ∀ loc tl, loc[2]? = some (.bool false) → Q .ret ⟨loc, tl, [], h⟩) (k : Nat) :
    ∀ (n i : Nat) (a3 : V) (tl : List (Nat × V)), i + n = x.length → x.take i = y.take i →
      (sems E (k + n + 30)).code cx (.loop eqB) ⟨[v, u, .bool false, a3, .int .i64 x.length, .int .i64 i], tl, [], h⟩ Q := by
  intro n
  induction n with
  | zero =>
    intro i a3 tl hi he
    rw [show k + 0 + 30 = (k + 29) + 1 from by omega]
    refine loop_code ?_
    have hlt : decide ((i : Int) < (x.length : Int)) = false := by simp only [decide_eq_false_iff_not]; omega
    simp only [eqB, fn20, ↓q_region, ↓q_exit, ↓q_cond, ↓q_nil, q_putT, q_evl, q_evt, q_mapsome, evOp, List.getD_cons_zero, List.getD_cons_succ, if_true, if_false, Bool.false_eq_true, eq_self, b_lss, ↓z_seq, ↓z_snrm, ↓z_sexit, ↓z_some, ↓z_bin, hlt]
    refine hQ0 ?_ _ _ rfl
    rw [List.take_of_length_le (by omega), List.take_of_length_le (by omega)] at he
    exact he
  | succ n ih =>
    intro i a3 tl hi he
    rw [show k + (n + 1) + 30 = (k + n + 30) + 1 from by omega]
    refine loop_code ?_
    have hlt : decide ((i : Int) < (x.length : Int)) = true := by simp only [decide_eq_true_eq]; omega
    obtain ⟨r, hr⟩ : ∃ r, x[i]? = some r := ⟨x[i], List.getElem?_eq_getElem (by omega)⟩
    obtain ⟨s, hs⟩ : ∃ r, y[i]? = some r := ⟨y[i], List.getElem?_eq_getElem (by omega)⟩
    obtain ⟨b, ob, cap, rfl, hrd⟩ := rx.at hr
    obtain ⟨b2, ob2, cap2, rfl, hrd2⟩ := ry.at hs
    have hc : ((0 : Int) ≤ (i : Int) ∧ (i : Int) < (x.length : Int)) = True := by simp only [eq_iff_iff, iff_true]; omega
    have hc2 : ((0 : Int) ≤ (i : Int) ∧ (i : Int) < (y.length : Int)) = True := by simp only [eq_iff_iff, iff_true]; omega
    have hwr : IntKind.wrap .i64 ((i : Int) + 1) = ((i + 1 : Nat) : Int) := by
      rw [wrap_small (by omega) (by omega)]; omega
    generalize hK : (fun (x' : X) (st' : St) => (match x' with | .nrm => (sems E (k + n + 30)).code cx (.loop eqB) st' Q | x => Q x st' : Prop)) = K
    by_cases hrs : r = s
    · have hd : decide (r = s) = true := by simp only [decide_eq_true_eq]; exact hrs
      simp only [eqB, fn20, ↓q_region, ↓q_skip, ↓q_cond, ↓q_nil, q_putL, q_putT, q_evl, q_evt, q_evc, q_mapsome, evOp, List.getD_cons_zero, List.getD_cons_succ, List.set_cons_zero, List.set_cons_succ, if_true, if_false, Nat.reduceEqDiff, Bool.false_eq_true, Bool.not_true, ↓q_draw, ↓d_nil, eq_self, r_mv, r_load, r_iaddr, b_lss, b_add, Int.toNat_natCast, ↓z_seq, ↓z_block, ↓z_snrm, ↓z_bnrm, ↓z_some, ↓z_dsome, ↓z_mv, ↓zd_mv, ↓zd_load, ↓z_bin, ↓zd_eq, ↓zd_iaddr, hlt, hc, hc2, hrd, hrd2, sv_eq, hd, hwr]
      rw [← hK]
      exact ih (i + 1) _ _ (by omega) (by rw [List.take_add_one, List.take_add_one, he, hr, hs, hrs])
    · have hd : decide (r = s) = false := by simp only [decide_eq_false_iff_not]; exact hrs
      simp only [eqB, fn20, ↓q_region, ↓q_skip, ↓q_ret, ↓q_cond, ↓q_nil, q_putL, q_putT, q_evl, q_evt, q_evc, q_mapsome, evOp, List.getD_cons_zero, List.getD_cons_succ, List.set_cons_zero, List.set_cons_succ, if_true, if_false, Nat.reduceEqDiff, Bool.false_eq_true, Bool.not_false, ↓q_draw, ↓d_nil, eq_self, r_mv, r_load, r_iaddr, b_lss, Int.toNat_natCast, ↓z_seq, ↓z_block, ↓z_snrm, ↓z_sret, ↓z_bret, ↓z_some, ↓z_dsome, ↓z_mv, ↓zd_mv, ↓zd_load, ↓z_bin, ↓zd_eq, ↓zd_iaddr, hlt, hc, hc2, hrd, hrd2, sv_eq, hd]
      rw [← hK]
      exact hQ1 (fun e => hrs (by rw [e, hs] at hr; exact (Option.some.inj hr).symm)) _ _ rfl

theorem equal20 (hE : Env0 E) {h : H} {v u : V} {x y : List SV} (rx : SlR h v x) (ry : SlR h u y) (hb : x.length ≤ 1048576) {R : Ret → H → Prop}
    (hR : R (.ret (.bool (decide (x = y)))) h) (k : Nat) : callF E (sems E (k + x.length + 40)) 20 [v, u] h R := by
  rw [show k + x.length + 40 = (k + x.length + 39) + 1 from by omega]
  refine call_in hE.mono (hE.none 20 (by decide)) (by rw [hE.ft]; rfl) rfl rfl ?_
  show (sems E (k + x.length + 39)).code _ fn20.body ⟨[v, u, .tup [], .tup [], .tup [], .tup []], [], [], h⟩ (EndQ [.loc 2] R)
  have hbd : fn20.body = .seq (.region [⟨.l 2, .mv (.c (.bool false)), none, 0⟩]) (.seq (.seq (.region [⟨.t 6, .mv (.l 0), none, 0⟩, ⟨.t 7, .len .sl (.t 6), none, 0⟩, ⟨.t 8, .mv (.l 1), none, 0⟩, ⟨.t 9, .len .sl (.t 8), none, 0⟩, ⟨.t 10, .bin .neq (.t 7) (.t 9), none, 0⟩]) (.cond (.t 10) (.seq (.region [⟨.l 2, .mv (.c (.bool false)), none, 0⟩]) .ret) .skip))
      (.seq (.seq (.region [⟨.t 11, .mv (.l 0), none, 0⟩, ⟨.l 4, .len .sl (.t 11), none, 0⟩, ⟨.l 5, .mv (.c (.int .i64 0)), none, 0⟩]) (.block 0 (.loop eqB))) (.seq (.region [⟨.l 2, .mv (.c (.bool true)), none, 0⟩]) .ret))) := rfl
  rw [hbd]
  by_cases hl : x.length = y.length
  · have hne : (((x.length : Nat) : Int) != ((y.length : Nat) : Int)) = false := by rw [hl]; simp
    simp only [↓q_region, ↓q_skip, ↓q_cond, ↓q_nil, q_putL, q_putT, q_evl, q_evt, q_evc, q_mapsome, evOp, List.getD_cons_zero, List.getD_cons_succ, List.set_cons_zero, List.set_cons_succ, if_true, if_false, Nat.reduceEqDiff, Bool.false_eq_true, eq_self, b_neq, ↓z_seq, ↓z_block, ↓z_snrm, ↓z_some, ↓z_mv, ↓z_bin, ↓z_len, rx.len.1, rx.len.2, ry.len.1, ry.len.2, hne]
    rw [show k + x.length + 34 = (k + 4) + x.length + 30 from by omega]
    refine eqLoop rx ry hl hb ?_ ?_ (k + 4) x.length 0 _ _ (by omega) rfl
    · intro e loc tl h6
      simp only [↓q_region, ↓q_ret, ↓q_nil, q_putL, q_evc, evOp, if_true, eq_self, ↓z_seq, ↓z_snrm, ↓z_sexit, ↓z_bexit, ↓z_some, ↓z_mv]
      refine ⟨rfl, .bool true, ?_, by rw [show decide (x = y) = true from by simp only [decide_eq_true_eq]; exact e] at hR; exact hR⟩
      simp only [resAll, resList, resOf, List.getElem?_set_self (show 2 < loc.length by omega), Option.map_some]
    · intro e loc tl h2
      simp only [↓z_sret, ↓z_bret]
      refine ⟨rfl, .bool false, ?_, by rw [show decide (x = y) = false from by simp only [decide_eq_false_iff_not]; exact e] at hR; exact hR⟩
      simp only [resAll, resList, resOf, h2, Option.map_some]
  · have hne : (((x.length : Nat) : Int) != ((y.length : Nat) : Int)) = true := by simp; omega
    simp only [↓q_region, ↓q_ret, ↓q_cond, ↓q_nil, q_putL, q_putT, q_evl, q_evt, q_evc, q_mapsome, evOp, List.getD_cons_zero, List.getD_cons_succ, List.set_cons_zero, List.set_cons_succ, if_true, if_false, Nat.reduceEqDiff, eq_self, b_neq, ↓z_seq, ↓z_snrm, ↓z_sret, ↓z_some, ↓z_mv, ↓z_bin, ↓z_len, rx.len.1, rx.len.2, ry.len.1, ry.len.2, hne]
    refine ⟨rfl, .bool false, rfl, ?_⟩
    rw [show decide (x = y) = false from by simp only [decide_eq_false_iff_not]; intro e; exact hl (by rw [e])] at hR
    exact hR
end Go.Abs.Sy
