/-
  The law of Replace: whether a register occurs.
-/
import Derived.Test.YtaaimcecdoeimaaGreatDoorLawD
namespace Go.Abs.Sy
open Go.Abs

variable {E : Env}

def ocB : ACode := match fn3.body with
  | .seq _ (.seq _ (.seq _ (.seq _ (.seq _ (.seq _ (.seq _ (.seq (.seq _ (.block _ (.loop b))) _))))))) => b
  | _ => .skip
def exB : ACode := match fn3.body with
  | .seq _ (.seq _ (.seq _ (.seq _ (.seq _ (.seq _ (.seq _ (.seq _ (.seq (.seq _ (.block _ (.loop b))) _)))))))) => b
  | _ => .skip
def inB : ACode := match exB with
  | .seq _ (.seq (.block _ (.seq _ (.seq _ (.block _ (.loop b))))) _) => b
  | _ => .skip

theorem IntO.len {lo : Nat} {h : H} {v : V} {l : List Int} (I : IntO lo h v l) (hh : H) : lenV hh v = some l.length ∧ lkOK .sl v = true := by
  rcases I with ⟨rfl, rfl⟩ | ⟨b, rfl, _⟩ <;> exact ⟨rfl, rfl⟩

theorem take_mem {l : List Int} {i : Nat} {z q : Int} (hz : l[i]? = some z) : decide (q ∈ l.take (i + 1)) = (decide (q ∈ l.take i) || (z == q)) := by
  rw [List.take_add_one, hz]
  simp only [Option.toList_some, List.mem_append, List.mem_singleton, Bool.decide_or]
  congr 1
  rw [show (z == q) = decide (z = q) from by by_cases h : z = q <;> simp [h]]
  exact decide_eq_decide.2 ⟨Eq.symm, Eq.symm⟩

theorem occLoop {lo : Nat} {h : H} {u : V} {l : List Int} (I : IntO lo h u l) (hl : l.length ≤ 3000000000000) {q : Int} {a0 a1 a3 a4 a5 a6 a7 a9 a11 a13 a14 a15 a16 a17 : V} {cx : Cx} {Q : X → St → Prop}
    (hQ : ∀ a12 tl, Q (.exit 0) ⟨[a0, a1, .int .i64 q, a3, a4, a5, a6, a7, u, a9, .bool (decide (q ∈ l)), a11, a12, a13, a14, a15, a16, a17], tl, [], h⟩) (k : Nat) :
    ∀ (n i : Nat) (tl : List (Nat × V)), i + n = l.length →
      (sems E (k + n + 40)).code cx (.loop ocB) ⟨[a0, a1, .int .i64 q, a3, a4, a5, a6, a7, u, a9, .bool (decide (q ∈ l.take i)), a11, .int .i64 i, a13, a14, a15, a16, a17], tl, [], h⟩ Q := by
  intro n
  induction n with
  | zero =>
    intro i tl hi
    rw [show k + 0 + 40 = (k + 39) + 1 from by omega]
    refine loop_code ?_
    have hlt : decide ((i : Int) < (l.length : Int)) = false := by simp only [decide_eq_false_iff_not]; omega
    have hi' : i = l.length := by omega
    have hL := (I.len h).1
    have hL2 := (I.len h).2
    simp only [ocB, fn3, ↓q_region, ↓q_exit, ↓q_cond, ↓q_nil, q_putT, q_evl, q_evt, q_mapsome, evOp, List.getD_cons_zero, List.getD_cons_succ, if_true, if_false, Nat.reduceEqDiff, Bool.false_eq_true, eq_self, b_lss, ↓z_seq, ↓z_snrm, ↓z_sexit, ↓z_some, ↓z_mv, ↓z_bin, ↓z_len, hL, hL2, hlt]
    subst hi'
    rw [List.take_length]
    exact hQ _ _
  | succ n ih =>
    intro i tl hi
    rw [show k + (n + 1) + 40 = (k + n + 40) + 1 from by omega]
    refine loop_code ?_
    have hlt : decide ((i : Int) < (l.length : Int)) = true := by simp only [decide_eq_true_eq]; omega
    obtain ⟨z, hz⟩ : ∃ z, l[i]? = some z := ⟨l[i], List.getElem?_eq_getElem (by omega)⟩
    have hc : ((0 : Int) ≤ (i : Int) ∧ (i : Int) < (l.length : Int)) = True := by simp only [eq_iff_iff, iff_true]; omega
    have hwr : IntKind.wrap .i64 ((i : Int) + 1) = ((i + 1 : Nat) : Int) := by
      rw [wrap_small (by omega) (by omega)]; omega
    obtain ⟨b, rfl, hlo, hb, hg⟩ : ∃ b, u = .sl b 0 l.length (.u 1) ∧ lo ≤ b ∧ b < h.next ∧ h.get b = some (.cells (l.map (.int .i64))) := by
      rcases I with ⟨_, e⟩ | x
      · rw [e] at hz; simp at hz
      · exact x
    have hr : h.rd b (0 + i * 1) 1 = some [.int .i64 z] := by
      refine (rd_of hg (by rw [List.length_map]; omega)).trans ?_
      rw [Nat.zero_add, Nat.mul_one, ← List.map_drop, ← List.map_take]
      have : (l.drop i).take 1 = [z] := by
        rw [List.drop_eq_getElem_cons (by omega), List.take_succ_cons, List.take_zero]
        rw [List.getElem?_eq_getElem (by omega)] at hz
        injection hz with hz; rw [hz]
      rw [this]; rfl
    rw [Nat.zero_add] at hr
    have htk := take_mem (q := q) hz
    have hih := ih (i + 1)
    rw [htk] at hih
    generalize hK : (fun (x : X) (st' : St) => (match x with | .nrm => (sems E (k + n + 40)).code cx (.loop ocB) st' Q | x => Q x st' : Prop)) = K
    have hL := (I.len h).1
    have hL2 := (I.len h).2
    cases hb : decide (q ∈ l.take i)
    · rw [hb, Bool.false_or] at hih
      simp only [ocB, fn3, ↓q_region, ↓q_skip, ↓q_cond, ↓q_nil, q_wanted, q_putL, q_putT, q_evl, q_evt, q_evc, q_mapsome, evOp, List.getD_cons_zero, List.getD_cons_succ, List.set_cons_zero, List.set_cons_succ, if_true, if_false, Nat.reduceEqDiff, Bool.false_eq_true, Nat.zero_add, eq_self, b_lss, b_add, b_eql, Int.toNat_natCast, ↓z_seq, ↓z_block, ↓z_snrm, ↓z_bnrm, ↓z_some, ↓z_gtrue, ↓z_mv, ↓zg_mv, ↓z_pick, ↓zg_load, ↓z_bin, ↓zg_bin, ↓zg_iaddr, ↓z_len, b_ff, hL, hL2, hlt, hc, hr, hwr]
      rw [← hK]
      exact hih _ (by omega)
    · rw [hb, Bool.true_or] at hih
      simp only [ocB, fn3, ↓q_region, ↓q_skip, ↓q_cond, ↓q_nil, q_wanted, q_putL, q_putT, q_evl, q_evt, q_evc, q_mapsome, evOp, List.getD_cons_zero, List.getD_cons_succ, List.set_cons_zero, List.set_cons_succ, if_true, if_false, Nat.reduceEqDiff, eq_self, b_lss, b_add, ↓z_seq, ↓z_block, ↓z_snrm, ↓z_bnrm, ↓z_some, ↓z_gfalse, ↓z_mv, ↓zg_mv, ↓z_pick, ↓zg_load, ↓z_bin, ↓zg_bin, ↓zg_iaddr, ↓z_len, b_tf, hL, hL2, hlt, hwr]
      rw [← hK]
      exact hih _ (by omega)

/-- values in a block of their own -/
def LstO (lo : Nat) (h : H) (v : V) (xs : List SV) : Prop := xs ≠ [] ∧ ∃ b c, v = .sl b 0 xs.length c ∧ (c = .k xs.length ∨ c = .u 6) ∧ lo ≤ b ∧ b < h.next ∧ h.get b = some (.cells (svs xs))

theorem LstO.len {lo : Nat} {h : H} {v : V} {xs : List SV} (I : LstO lo h v xs) (hh : H) : lenV hh v = some xs.length ∧ lkOK .sl v = true := by
  obtain ⟨_, b, c, rfl, _⟩ := I; exact ⟨rfl, rfl⟩

theorem LstO.more {lo : Nat} {h0 h : H} {v : V} {xs : List SV} (I : LstO lo h v xs) (p : Pres h0 h) (hlo : h0.next ≤ lo) (ys : List SV) (hr : xs.length + ys.length ≤ 3000000) :
    ∃ v' h', appendV 6 56 v ys.length (svs ys) h = some (v', h') ∧ LstO lo h' v' (xs ++ ys) ∧ Pres h0 h' := by
  obtain ⟨hne, b, c, rfl, hc, h1, h2, h3⟩ := I
  have hpos : 0 < xs.length := List.length_pos_iff.2 hne
  have hne' : xs ++ ys ≠ [] := fun e => hne (List.append_eq_nil_iff.1 e).1
  cases hy : ys with
  | nil =>
    refine ⟨_, _, app_none (.inr ⟨_, _, _, _, rfl⟩), ?_, p⟩
    rw [List.append_nil]
    exact ⟨hne, b, c, rfl, hc, h1, h2, h3⟩
  | cons y yt =>
    rw [← hy]
    have hy0 : ys.length ≠ 0 := by rw [hy]; exact Nat.succ_ne_zero _
    have hroom : roomOK (xs.length + ys.length) 56 = true := by simp only [roomOK, decide_eq_true_eq]; omega
    have hrd : h.rd b 0 (xs.length * 6) = some (svs xs) := (rd_of h3 (by rw [svs_length]; omega)).trans (by rw [List.drop_zero, List.take_of_length_le (by rw [svs_length]; omega)])
    rcases hc with rfl | rfl
    · have p2 := p.trans (Pres.push p.wf (.cells (svs xs ++ svs ys)))
      refine ⟨_, _, app_k hy0 (svs_ok ys) hroom (by omega) hrd, ⟨hne', h.next, .u 6, by rw [List.length_append], .inr rfl, ?_, Nat.lt_succ_self _, ?_⟩, p2⟩
      · omega
      · rw [H.get_push, if_pos rfl, svs_append]
    · have pd : Pres h0 (h.set b .dead) := p.set (by omega) h2 _
      have p2 := pd.trans (Pres.push pd.wf (.cells (svs xs ++ svs ys)))
      refine ⟨_, _, app_u hy0 (svs_ok ys) hroom hrd h3, ⟨hne', h.next, .u 6, by rw [List.length_append], .inr rfl, ?_, Nat.lt_succ_self _, ?_⟩, p2⟩
      · omega
      · rw [H.get_push, if_pos (show h.next = (h.set b .dead).next from rfl), svs_append]

theorem sv_take_mem {l : List SV} {i : Nat} {z q : SV} (hz : l[i]? = some z) : decide (q ∈ l.take (i + 1)) = (decide (q ∈ l.take i) || decide (z = q)) := by
  rw [List.take_add_one, hz]
  simp only [Option.toList_some, List.mem_append, List.mem_singleton, Bool.decide_or]
  congr 1
  exact decide_eq_decide.2 ⟨Eq.symm, Eq.symm⟩

theorem inLoop {lo : Nat} {h : H} {v : V} {xs : List SV} (I : LstO lo h v xs) (hl : xs.length ≤ 3000000) {r : SV} {rb : Nat} (hrb : h.rd rb 0 6 = some r.cells) {e0 : Bool} {a0 a1 a2 a3 a4 a5 a6 a7 a8 a10 a12 a13 a16 a17 : V} {cx : Cx} {Q : X → St → Prop}
    (hQ : ∀ a15 tl, Q (.exit 4) ⟨[a0, a1, a2, a3, a4, a5, a6, a7, a8, .ptr rb 0, a10, .bool (e0 || decide (r ∈ xs)), a12, a13, v, a15, a16, a17], tl, [], h⟩) (k : Nat) :
    ∀ (n i : Nat) (tl : List (Nat × V)), i + n = xs.length →
      (sems E (k + n + 40)).code cx (.loop inB) ⟨[a0, a1, a2, a3, a4, a5, a6, a7, a8, .ptr rb 0, a10, .bool (e0 || decide (r ∈ xs.take i)), a12, a13, v, .int .i64 i, a16, a17], tl, [], h⟩ Q := by
  obtain ⟨hL, hL2⟩ := I.len h
  obtain ⟨_, b, c, rfl, hc, h1, h2, h3⟩ := I
  intro n
  induction n with
  | zero =>
    intro i tl hi
    rw [show k + 0 + 40 = (k + 39) + 1 from by omega]
    refine loop_code ?_
    have hlt : decide ((i : Int) < (xs.length : Int)) = false := by simp only [decide_eq_false_iff_not]; omega
    have hi' : i = xs.length := by omega
    simp only [inB, exB, fn3, ↓q_region, ↓q_exit, ↓q_cond, ↓q_nil, q_putT, q_evl, q_evt, q_mapsome, evOp, List.getD_cons_zero, List.getD_cons_succ, if_true, if_false, Nat.reduceEqDiff, Bool.false_eq_true, eq_self, b_lss, ↓z_seq, ↓z_snrm, ↓z_sexit, ↓z_some, ↓z_mv, ↓z_bin, ↓z_len, hL, hL2, hlt]
    subst hi'
    rw [List.take_length]
    exact hQ _ _
  | succ n ih =>
    intro i tl hi
    rw [show k + (n + 1) + 40 = (k + n + 40) + 1 from by omega]
    refine loop_code ?_
    have hlt : decide ((i : Int) < (xs.length : Int)) = true := by simp only [decide_eq_true_eq]; omega
    obtain ⟨z, hz⟩ : ∃ z, xs[i]? = some z := ⟨xs[i], List.getElem?_eq_getElem (by omega)⟩
    have hcc : ((0 : Int) ≤ (i : Int) ∧ (i : Int) < (xs.length : Int)) = True := by simp only [eq_iff_iff, iff_true]; omega
    have hwr : IntKind.wrap .i64 ((i : Int) + 1) = ((i + 1 : Nat) : Int) := by
      rw [wrap_small (by omega) (by omega)]; omega
    have hrd : h.rd b 0 (xs.length * 6) = some (svs xs) := (rd_of h3 (by rw [svs_length]; omega)).trans (by rw [List.drop_zero, List.take_of_length_le (by rw [svs_length]; omega)])
    have hr := rd_sv hrd hz
    rw [Nat.zero_add] at hr
    have htk := sv_take_mem (q := r) hz
    have hih := ih (i + 1)
    rw [htk, ← Bool.or_assoc] at hih
    generalize hK : (fun (x : X) (st' : St) => (match x with | .nrm => (sems E (k + n + 40)).code cx (.loop inB) st' Q | x => Q x st' : Prop)) = K
    cases hb : (e0 || decide (r ∈ xs.take i))
    · rw [hb, Bool.false_or] at hih
      simp only [inB, exB, fn3, ↓q_region, ↓q_skip, ↓q_cond, ↓q_nil, q_wanted, q_putL, q_putT, q_evl, q_evt, q_evc, q_mapsome, evOp, List.getD_cons_zero, List.getD_cons_succ, List.set_cons_zero, List.set_cons_succ, if_true, if_false, Nat.reduceEqDiff, Bool.false_eq_true, Nat.zero_add, ↓q_draw, ↓d_nil, eq_self, r_mv, r_pick, r_load, r_eq, r_iaddr, b_lss, b_add, Int.toNat_natCast, ↓z_seq, ↓z_block, ↓z_snrm, ↓z_bnrm, ↓z_some, ↓z_dsome, ↓z_dgtrue, ↓z_mv, ↓zd_mv, ↓zh_mv, ↓zd_pick, ↓zh_load, ↓z_bin, ↓zh_eq, ↓zh_iaddr, ↓z_len, b_ff, hL, hL2, hlt, hcc, hr, hrb, sv_eq, hwr]
      rw [← hK]
      exact hih _ (by omega)
    · rw [hb, Bool.true_or] at hih
      simp only [inB, exB, fn3, ↓q_region, ↓q_skip, ↓q_cond, ↓q_nil, q_wanted, q_putL, q_putT, q_evl, q_evt, q_evc, q_mapsome, evOp, List.getD_cons_zero, List.getD_cons_succ, List.set_cons_zero, List.set_cons_succ, if_true, if_false, Nat.reduceEqDiff, Bool.false_eq_true, ↓q_draw, ↓d_nil, eq_self, r_mv, r_pick, b_lss, b_add, ↓z_seq, ↓z_block, ↓z_snrm, ↓z_bnrm, ↓z_some, ↓z_dsome, ↓z_dgfalse, ↓z_mv, ↓zd_mv, ↓zh_mv, ↓zd_pick, ↓zh_load, ↓z_bin, ↓zh_eq, ↓zh_iaddr, ↓z_len, b_tf, hL, hL2, hlt, hwr]
      rw [← hK]
      exact hih _ (by omega)
end Go.Abs.Sy

namespace Go.Abs.Sy
open Go.Abs

variable {E : Env}

theorem SlR.src {h : H} {w : V} {l : List SV} (r : SlR h w l) : srcOf h 6 w = some (l.length, svs l) := by
  rcases r with ⟨rfl, rfl⟩ | ⟨b, o, cap, rfl, e⟩
  · rfl
  · unfold srcOf
    simp only [e, Option.map_some]

theorem exLoop (hE : ExtMono E) {h : H} (w : WF h) {v : V} {g : List Row} (fs : FsR h v g) (hf : fits20 g) {m : Nat} (hm : ∀ r ∈ g, r.1.vars.length ≤ m ∧ r.1.stack.length ≤ m)
    {h0 : H} (_p0 : Pres h0 h) {r : SV} {rb : Nat} (hrb : h.rd rb 0 6 = some r.cells) {a1 a2 a3 a4 a5 a6 a7 a8 a10 a12 a16 a17 : V} {cx : Cx} {Q : X → St → Prop}
    (hQ : ∀ a13 a14 a15 tl hh, Pres h hh → Q (.exit 2) ⟨[v, a1, a2, a3, a4, a5, a6, a7, a8, .ptr rb 0, a10, .bool (decide (r ∈ g.flatMap valsOf)), a12, a13, a14, a15, a16, a17], tl, [], hh⟩) (k : Nat) :
    ∀ (n i : Nat) (a14 a15 : V) (tl : List (Nat × V)) (hh : H), i + n = g.length → Pres h hh →
      (sems E (k + 2 * m + n + 80)).code cx (.loop exB) ⟨[v, a1, a2, a3, a4, a5, a6, a7, a8, .ptr rb 0, a10, .bool (decide (r ∈ (g.take i).flatMap valsOf)), a12, .int .i64 i, a14, a15, a16, a17], tl, [], hh⟩ Q := by
  intro n
  induction n with
  | zero =>
    intro i a14 a15 tl hh hi p
    rw [show k + 2 * m + 0 + 80 = (k + 2 * m + 79) + 1 from by omega]
    refine loop_code ?_
    have hlt : decide ((i : Int) < (g.length : Int)) = false := by simp only [decide_eq_false_iff_not]; omega
    have hi' : i = g.length := by omega
    have hL := fs.lenAny hh
    have hL2 := fs.len.2
    simp only [exB, fn3, ↓q_region, ↓q_exit, ↓q_cond, ↓q_nil, q_putT, q_evl, q_evt, q_mapsome, evOp, List.getD_cons_zero, List.getD_cons_succ, if_true, if_false, Nat.reduceEqDiff, Bool.false_eq_true, eq_self, b_lss, ↓z_seq, ↓z_snrm, ↓z_sexit, ↓z_some, ↓z_mv, ↓z_bin, ↓z_len, hL, hL2, hlt]
    subst hi'
    rw [List.take_length]
    exact hQ _ _ _ _ _ p
  | succ n ih =>
    intro i a14 a15 tl hh hi p
    rw [show k + 2 * m + (n + 1) + 80 = (k + 2 * m + n + 80) + 1 from by omega]
    refine loop_code ?_
    have hlt : decide ((i : Int) < (g.length : Int)) = true := by simp only [decide_eq_true_eq]; omega
    have hL := fs.lenAny hh
    have hL2 := fs.len.2
    obtain ⟨rw_, hr⟩ : ∃ r, g[i]? = some r := ⟨g[i], List.getElem?_eq_getElem (by omega)⟩
    have hrm : rw_ ∈ g := List.mem_of_getElem? hr
    obtain ⟨b, ob, cap, hv, hrd⟩ := fs.at hr
    have hc : ((0 : Int) ≤ (i : Int) ∧ (i : Int) < (g.length : Int)) = True := by simp only [eq_iff_iff, iff_true]; omega
    have hwr : IntKind.wrap .i64 ((i : Int) + 1) = ((i + 1 : Nat) : Int) := by
      rw [wrap_small (by omega) (by have := hf.1; omega)]; omega
    obtain ⟨f, vv, sv⟩ := rw_
    have hfl := hf.2 _ hrm
    have hml := hm _ hrm
    have hrr := fs.2 _ hrm
    simp only at hfl hml
    have q : ∀ hx, Pres h hx → hx.rd b (ob + i * 18 + 2) 6 = some f.self.cells ∧ hx.rd b (ob + i * 18 + 8) 6 = some f.hold.cells ∧ hx.rd b (ob + i * 18 + 14) 1 = some [vv] ∧ hx.rd b (ob + i * 18 + 15) 1 = some [sv] := by
      intro hx px
      have e := rd_pres w px hrd
      exact ⟨rd_part e 2 6 (by omega), rd_part e 8 6 (by omega), rd_part e 14 1 (by omega), rd_part e 15 1 (by omega)⟩
    obtain ⟨q1, q2, q3, q4⟩ := q hh p
    -- the list of two
    have p1 : Pres h (hh.push (.cells (svs [f.self, f.hold]))) := p.trans (Pres.push p.wf _)
    have L1 : LstO h.next (hh.push (.cells (svs [f.self, f.hold]))) (.sl hh.next 0 2 (.k 2)) [f.self, f.hold] :=
      ⟨(fun e => by cases e), hh.next, .k 2, rfl, .inl rfl, p.next, Nat.lt_succ_self _, by rw [H.get_push, if_pos rfl]⟩
    obtain ⟨q1a, q2a, q3a, q4a⟩ := q _ p1
    have s1 := (hrr.1.pres w p1).src
    obtain ⟨v2, h2, ap1, L2, p2⟩ := L1.more p1 (Nat.le_refl _) f.vars (by simp only [List.length_cons, List.length_nil]; omega)
    obtain ⟨q1b, q2b, q3b, q4b⟩ := q _ p2
    have s2 := (hrr.2.pres w p2).src
    obtain ⟨v3, h3, ap2, L3, p3⟩ := L2.more p2 (Nat.le_refl _) f.stack (by simp only [List.length_append, List.length_cons, List.length_nil]; omega)
    have hxs : [f.self, f.hold] ++ f.vars ++ f.stack = valsOf (f, vv, sv) := by unfold valsOf; simp
    rw [hxs] at L3
    have ce : svs [f.self, f.hold] = [.int .i64 f.self.k, .int .i64 f.self.n, .int .i64 f.self.m, .int .i64 f.self.a, .int .i64 f.self.b, .str f.self.t, .int .i64 f.hold.k, .int .i64 f.hold.n, .int .i64 f.hold.m, .int .i64 f.hold.a, .int .i64 f.hold.b, .str f.hold.t] := rfl
    rw [ce] at ap1 s1 q1a q2a q3a q4a
    have cs : f.self.cells = [.int .i64 f.self.k, .int .i64 f.self.n, .int .i64 f.self.m, .int .i64 f.self.a, .int .i64 f.self.b, .str f.self.t] := rfl
    have ch : f.hold.cells = [.int .i64 f.hold.k, .int .i64 f.hold.n, .int .i64 f.hold.m, .int .i64 f.hold.a, .int .i64 f.hold.b, .str f.hold.t] := rfl
    rw [cs] at q1; rw [ch] at q2
    have hlen : (valsOf (f, vv, sv)).length = 2 + f.vars.length + f.stack.length := by unfold valsOf; simp; omega
    have htk : decide (r ∈ (g.take (i + 1)).flatMap valsOf) = (decide (r ∈ (g.take i).flatMap valsOf) || decide (r ∈ valsOf (f, vv, sv))) := by
      rw [List.take_add_one, hr, List.flatMap_append]
      simp only [Option.toList_some, List.mem_append, Bool.decide_or, List.flatMap_cons, List.flatMap_nil, List.append_nil]
    have hih := ih (i + 1)
    rw [htk] at hih
    subst hv
    have hrb3 := rd_pres w p3 hrb
    have hin : ∀ (tl : List (Nat × V)) (Q' : X → St → Prop), (∀ a15 tl, Q' (.exit 4) ⟨[.sl b ob g.length cap, a1, a2, a3, a4, a5, a6, a7, a8, .ptr rb 0, a10, .bool (decide (r ∈ (g.take i).flatMap valsOf) || decide (r ∈ valsOf (f, vv, sv))), a12, .int .i64 i, v3, a15, a16, a17], tl, [], h3⟩) →
        (sems E (k + 2 * m + n + 70)).code cx (.loop inB) ⟨[.sl b ob g.length cap, a1, a2, a3, a4, a5, a6, a7, a8, .ptr rb 0, a10, .bool (decide (r ∈ (g.take i).flatMap valsOf)), a12, .int .i64 i, v3, .int .i64 0, a16, a17], tl, [], h3⟩ Q' := by
      intro tl Q' hq'
      have := inLoop (E := E) (cx := cx) L3 (by omega) hrb3 (e0 := decide (r ∈ (g.take i).flatMap valsOf)) (a0 := .sl b ob g.length cap) (a1 := a1) (a2 := a2) (a3 := a3) (a4 := a4) (a5 := a5) (a6 := a6) (a7 := a7) (a8 := a8) (a10 := a10) (a12 := a12) (a13 := .int .i64 i) (a16 := a16) (a17 := a17) hq' 0 (valsOf (f, vv, sv)).length 0 tl (by omega)
      rw [List.take_zero] at this
      have e0 : decide (r ∈ ([] : List SV)) = false := rfl
      rw [e0, Bool.or_false] at this
      exact (sems_le hE _ _ (by omega)).code _ _ _ _ _ (fun _ _ x => x) this
    generalize hK : (fun (x : X) (st' : St) => (match x with | .nrm => (sems E (k + 2 * m + n + 80)).code cx (.loop exB) st' Q | x => Q x st' : Prop)) = K
    have hbd : exB = (.seq (.seq (.region [⟨.t 44, .mv (.l 13), none, 0⟩,
 ⟨.t 45, .mv (.l 0), none, 0⟩,
 ⟨.t 46, .len (.sl) (.t 45), none, 0⟩,
 ⟨.t 47, .bin (.lss) (.t 44) (.t 46), none, 0⟩])
 (.cond (.t 47) .skip
 (.exit 2)))
 (.seq (.block 3 (.seq (match exB with | .seq _ (.seq (.block _ (.seq d _)) _) => d | _ => .skip)
 (.seq (.region [⟨.l 15, .mv (.c (.int (.i64) 0)), none, 0⟩])
 (.block 4 (.loop inB)))))
 (.region [⟨.t 48, .mv (.l 13), none, 0⟩,
 ⟨.t 49, .bin (.add) (.t 48) (.c (.int (.i64) 1)), none, 0⟩,
 ⟨.l 13, .mv (.t 49), none, 0⟩]))) := rfl
    rw [hbd]
    have hdr : (match exB with | .seq _ (.seq (.block _ (.seq d _)) _) => d | _ => ACode.skip) = .draw [(0, ⟨.t 50, .mv (.l 0), none, 0⟩),
 (1, ⟨.t 51, .mv (.l 13), none, 0⟩),
 (2, ⟨.t 52, .iaddr 18 (.t 50) (.t 51), none, 3⟩),
 (3, ⟨.t 53, .faddr 2 (.t 52), none, 7⟩),
 (4, ⟨.t 54, .load true 6 (.t 53), none, 15⟩),
 (5, ⟨.t 55, .mv (.l 0), none, 0⟩),
 (6, ⟨.t 56, .mv (.l 13), none, 0⟩),
 (7, ⟨.t 57, .iaddr 18 (.t 55) (.t 56), none, 96⟩),
 (8, ⟨.t 58, .faddr 8 (.t 57), none, 224⟩),
 (9, ⟨.t 59, .load true 6 (.t 58), none, 480⟩),
 (10, ⟨.t 60, .bslice [.int (.i64) 0, .int (.i64) 0, .int (.i64) 0, .int (.i64) 0, .int (.i64) 0, .str []] 6 2 [(0, 6, .t 54), (6, 6, .t 59)], none, 1023⟩),
 (11, ⟨.t 61, .mv (.l 0), none, 0⟩),
 (12, ⟨.t 62, .mv (.l 13), none, 0⟩),
 (13, ⟨.t 63, .iaddr 18 (.t 61) (.t 62), none, 6144⟩),
 (14, ⟨.t 64, .faddr 14 (.t 63), none, 14336⟩),
 (15, ⟨.t 65, .load false 1 (.t 64), none, 30720⟩),
 (17, ⟨.t 67, .mv (.l 0), none, 0⟩),
 (18, ⟨.t 68, .mv (.l 13), none, 0⟩),
 (19, ⟨.t 69, .iaddr 18 (.t 67) (.t 68), none, 393216⟩),
 (20, ⟨.t 70, .faddr 15 (.t 69), none, 917504⟩),
 (21, ⟨.t 71, .load false 1 (.t 70), none, 1966080⟩),
 (16, ⟨.t 66, .append 6 56 (.t 60) (.t 65), none, 65535⟩),
 (22, ⟨.t 72, .append 6 56 (.t 66) (.t 71), none, 4194303⟩),
 (23, ⟨.l 14, .mv (.t 72), none, 8388607⟩)] := rfl
    rw [hdr]
    simp only [↓q_region, ↓q_skip, ↓q_cond, ↓q_nil, q_putL, q_putT, q_evl, q_evt, q_evc, q_mapsome, evOp, List.getD_cons_zero, List.getD_cons_succ, List.set_cons_zero, List.set_cons_succ, if_true, if_false, Nat.reduceEqDiff, Bool.false_eq_true, List.length_cons, List.length_nil, List.take_succ_cons, List.take_zero, List.drop_succ_cons, List.drop_zero, List.cons_append, List.nil_append, List.append_nil, Nat.reduceAdd, Nat.reduceLeDiff, Nat.zero_add, and_self, true_and, List.all_cons, List.all_nil, Bool.and_self, Nat.le_refl, fill, p_agg, ↓q_draw, ↓d_nil, eq_self, Bool.true_or, Bool.or_true, r_mv, r_bslice, r_load, r_faddr, r_iaddr, b_lss, Int.toNat_natCast, ↓z_seq, ↓z_block, ↓z_snrm, ↓z_some, ↓z_dsome, ↓z_fsome, ↓z_mv, ↓zd_mv, ↓zd_bslice, ↓zd_load, ↓z_bin, ↓zd_faddr, ↓zd_iaddr, ↓z_len, ↓zd_append, hL, hL2, hlt, hc, q1, q2, q3a, q4a, reps, List.drop_nil, s1, ap1, s2, ap2, Rec.again, q4b, V.beq_refl, show Nat.testBit 65535 4 = true from rfl, show Nat.testBit 65535 9 = true from rfl, show Nat.testBit 65535 15 = true from rfl, show Nat.testBit 65535 21 = false from rfl, show Nat.testBit 4194303 4 = true from rfl, show Nat.testBit 4194303 9 = true from rfl, show Nat.testBit 4194303 15 = true from rfl, show Nat.testBit 4194303 21 = true from rfl]
    refine (sems_le hE (k + 2 * m + n + 70) _ (by omega)).code _ _ _ _ _ (fun _ _ x => x) (hin _ _ ?_)
    intro a15' tl'
    simp only [↓q_region, ↓q_nil, q_putL, q_putT, q_evl, q_evt, q_evc, q_mapsome, evOp, List.getD_cons_zero, List.getD_cons_succ, List.set_cons_zero, List.set_cons_succ, if_true, if_false, Nat.reduceEqDiff, eq_self, b_add, ↓z_snrm, ↓z_sexit, ↓z_bnrm, ↓z_bexit, ↓z_some, ↓z_mv, ↓z_bin, hwr]
    rw [← hK]
    exact hih _ _ _ _ (by omega) p3
end Go.Abs.Sy

namespace Go.Abs.Sy
open Go.Abs

variable {E : Env}

/-! ### replaced frames -/
def vf (f : Fr) : List SV := f.self :: f.hold :: (f.vars ++ f.stack)
theorem valsOf_vf (r : Row) : valsOf r = vf r.1 := rfl

theorem map_fix {α : Type} {T : α → α} {l : List α} : l.map T = l ↔ ∀ s ∈ l, T s = s := by
  induction l with
  | nil => exact ⟨fun _ s hs => (by cases hs), fun _ => rfl⟩
  | cons a l ih =>
    rw [List.map_cons, List.cons.injEq, ih, List.forall_mem_cons]

theorem frT_fix {T : SV → SV} {f : Fr} : frT T f = f ↔ ∀ s ∈ vf f, T s = s := by
  unfold vf
  rw [List.forall_mem_cons, List.forall_mem_cons, List.forall_mem_append, ← map_fix (l := f.vars), ← map_fix (l := f.stack)]
  cases f
  simp only [frT, Fr.mk.injEq, true_and, and_true]

theorem frs_fix {T : SV → SV} {g : List Row} : (g.map (·.1)).map (frT T) = g.map (·.1) ↔ ∀ s ∈ g.flatMap valsOf, T s = s := by
  rw [map_fix]
  constructor
  · intro h s hs
    obtain ⟨r, hr, hs⟩ := List.mem_flatMap.1 hs
    exact frT_fix.1 (h r.1 (List.mem_map.2 ⟨r, hr, rfl⟩)) s hs
  · intro h f hf
    obtain ⟨r, hr, rfl⟩ := List.mem_map.1 hf
    exact frT_fix.2 fun s hs => h s (List.mem_flatMap.2 ⟨r, hr, hs⟩)

theorem frT_frT (S T : SV → SV) (f : Fr) : frT T (frT S f) = frT (fun s => T (S s)) f := by
  unfold frT; simp only [List.map_map, Function.comp_def]

theorem there_back {r a : SV} {l : List Fr} (h : ∀ f ∈ l, r ∉ vf f) : (l.map (frT (repl a r))).map (frT (repl r a)) = l := by
  rw [List.map_map]
  conv => rhs; rw [← List.map_id l]
  refine List.map_congr_left fun f hf => ?_
  rw [Function.comp_apply, frT_frT]
  refine frT_fix.2 fun s hs => ?_
  unfold repl
  have hne : s ≠ r := fun e => h f hf (e ▸ hs)
  by_cases hs : s = a
  · rw [if_pos hs, if_pos rfl]; exact hs.symm
  · rw [if_neg hs, if_neg hne]

theorem fits_of {g g' : List Row} {T : SV → SV} (h : g'.map (·.1) = (g.map (·.1)).map (frT T)) (hf : fits20 g) {m : Nat} (hm : ∀ r ∈ g, r.1.vars.length ≤ m ∧ r.1.stack.length ≤ m) :
    fits20 g' ∧ g'.length = g.length ∧ ∀ r ∈ g', r.1.vars.length ≤ m ∧ r.1.stack.length ≤ m := by
  have hl : g'.length = g.length := by have := congrArg List.length h; simpa only [List.length_map] using this
  have hr : ∀ r ∈ g', ∃ q ∈ g, r.1 = frT T q.1 := by
    intro r hr
    have : r.1 ∈ g'.map (·.1) := List.mem_map.2 ⟨r, hr, rfl⟩
    rw [h, List.map_map] at this
    obtain ⟨q, hq, e⟩ := List.mem_map.1 this
    exact ⟨q, hq, e.symm⟩
  refine ⟨⟨by rw [hl]; exact hf.1, fun r h1 => ?_⟩, hl, fun r h1 => ?_⟩
  · obtain ⟨q, hq, e⟩ := hr r h1
    have := hf.2 q hq
    rw [e]; simpa only [frT, List.length_map] using this
  · obtain ⟨q, hq, e⟩ := hr r h1
    have := hm q hq
    rw [e]; simpa only [frT, List.length_map] using this

def endB : ACode := match fn3.body with
  | .seq _ (.seq _ (.seq _ (.seq _ (.seq _ (.seq _ (.seq _ (.seq _ (.seq _ b)))))))) => b
  | _ => .skip

def other : SV := ⟨-7, 0, 0, 0, 0, []⟩

set_option maxHeartbeats 1000000 in
theorem lawEnd (hE : Env0 E) {h0 h : H} (p0 : Pres h0 h) {v : V} {g : List Row} (fs : FsR h v g) (hf : fits20 g) {m : Nat} (hm : ∀ r ∈ g, r.1.vars.length ≤ m ∧ r.1.stack.length ≤ m)
    {a x r : SV} {b4 b5 b9 : Nat} (hb4 : h.rd b4 0 6 = some a.cells) (hb5 : h.rd b5 0 6 = some x.cells) (hb9 : h.rd b9 0 6 = some r.cells) {oc : Bool} (hoc : oc = false → r ∉ g.flatMap valsOf) (hro : r ≠ other) {a1 a2 a3 a6 a8 a12 a13 a14 a15 a16 a17 : V} {cx : Cx} {Q : X → St → Prop}
    (hQ : ∀ loc tl hh, Pres h0 hh → loc[6]? = some (.bool true) → Q .ret ⟨loc, tl, [], hh⟩) (k : Nat) :
    (sems E (k + m + g.length + 300)).code cx endB ⟨[v, a1, a2, a3, .ptr b4 0, .ptr b5 0, a6, .bool true, a8, .ptr b9 0, .bool oc, .bool (decide (r ∈ g.flatMap valsOf)), a12, a13, a14, a15, a16, a17], [], [], h⟩ Q := by
  have w := p0.wf
  cases oc with
  | false =>
    have hn := hoc rfl
    have hd : decide (r ∈ g.flatMap valsOf) = false := decide_eq_false hn
    have hfr : ∀ f ∈ g.map (·.1), r ∉ vf f := by
      intro f hf' hr
      obtain ⟨q, hq, rfl⟩ := List.mem_map.1 hf'
      exact hn (List.mem_flatMap.2 ⟨q, hq, hr⟩)
    rw [hd]
    simp only [endB, fn3, ↓q_region, ↓q_skip, ↓q_cond, ↓q_nil, q_wanted, q_putL, q_putT, q_evl, q_evt, q_evf, q_mapsome, evOp, List.getD_cons_zero, List.getD_cons_succ, List.set_cons_zero, List.set_cons_succ, if_true, if_false, Nat.reduceEqDiff, List.map_cons, List.map_nil, Bool.false_eq_true, List.nil_append, List.append_nil, Bool.not_false, eq_self, u_not, ↓z_seq, ↓z_snrm, ↓z_span, ↓z_some, ↓z_gtrue, ↓z_call, ↓z_mv, ↓zg_mv, ↓z_load, ↓zg_load, ↓z_un, b_tt, hb4, hb9, callV]
    refine callF_le hE.mono (sems_le hE.mono (0 + m + g.length + 200) _ (by omega)) (fun _ _ x => x) (replace8 hE w fs hf hm ?_ 0)
    intro v1 g1 h1 p1 f1 e1
    obtain ⟨hf1, hl1, hm1⟩ := fits_of e1 hf hm
    have hb91 := rd_pres w p1 hb9
    have hb51 := rd_pres w p1 hb5
    simp only [q_wanted, q_putT, q_evl, q_evt, q_evc, q_evf, q_mapsome, evOp, List.getD_cons_zero, List.getD_cons_succ, if_true, if_false, Nat.reduceEqDiff, List.map_cons, List.map_nil, List.nil_append, List.append_nil, eq_self, ↓z_span, ↓z_some, ↓z_gtrue, ↓z_gcall, ↓z_mv, ↓zg_mv, ↓z_pick, ↓zg_load, b_tt, hb91, hb51, callV]
    refine callF_le hE.mono (sems_le hE.mono (0 + m + g.length + 200) _ (by omega)) (fun _ _ x => x) (replace8 hE p1.wf (fs.pres w p1) hf hm ?_ 0)
    intro v2 g2 h2 p2 f2 e2
    obtain ⟨hf2, hl2, hm2⟩ := fits_of e2 hf hm
    have p02 := p1.trans p2
    simp only []
    refine callF_le hE.mono (sems_le hE.mono (0 + m + g2.length + 110) _ (by omega)) (fun _ _ x => x) (equal9 hE p2.wf f2 (fs.pres w p02) hf2 hm2 ?_ 0)
    intro h3 p3
    have p03 := p02.trans p3
    have t1 : g2.map (·.1) = g.map (·.1) := by
      rw [e2]
      refine frs_fix.2 fun s hs => ?_
      unfold repl
      have hne : s ≠ r := fun e => hn (e ▸ hs)
      rw [if_neg hne]
    rw [decide_eq_true t1]
    have hb43 := rd_pres w p03 hb4
    have hb93 := rd_pres w p03 hb9
    by_cases har : a = r
    · have hd2 : decide (a = r) = true := decide_eq_true har
      simp only [↓q_ret, ↓q_nil, q_wanted, q_putL, q_putT, q_evl, q_evt, q_evc, q_mapsome, evOp, List.getD_cons_zero, List.getD_cons_succ, List.set_cons_zero, List.set_cons_succ, if_true, if_false, Nat.reduceEqDiff, Bool.false_eq_true, eq_self, ↓z_snrm, ↓z_sret, ↓z_some, ↓z_gtrue, ↓z_gfalse, ↓z_gcall, ↓z_mv, ↓zg_mv, ↓z_pick, ↓zg_pick, ↓zg_load, ↓zg_eq, b_tt, b_tf, hb43, hb93, sv_eq, hd2]
      exact hQ _ _ _ (p0.trans p03) rfl
    · have hd2 : decide (a = r) = false := decide_eq_false har
      simp only [↓q_ret, ↓q_nil, q_wanted, q_putL, q_putT, q_evl, q_evt, q_evc, q_evf, q_mapsome, evOp, List.getD_cons_zero, List.getD_cons_succ, List.set_cons_zero, List.set_cons_succ, if_true, if_false, Nat.reduceEqDiff, List.map_cons, List.map_nil, Bool.false_eq_true, List.nil_append, List.append_nil, eq_self, ↓z_snrm, ↓z_sret, ↓z_span, ↓z_some, ↓z_gtrue, ↓z_gcall, ↓z_mv, ↓zg_mv, ↓z_pick, ↓zg_pick, ↓zg_load, ↓zg_eq, b_tt, b_ff, hb43, hb93, sv_eq, hd2, callV]
      refine callF_le hE.mono (sems_le hE.mono (0 + m + g1.length + 200) _ (by omega)) (fun _ _ x => x) (replace8 hE p03.wf (f1.pres p1.wf (p2.trans p3)) hf1 hm1 ?_ 0)
      intro v4 g4 h4 p4 f4 e4
      obtain ⟨hf4, hl4, hm4⟩ := fits_of e4 hf1 hm1
      have p04 := p03.trans p4
      simp only []
      refine callF_le hE.mono (sems_le hE.mono (0 + m + g4.length + 110) _ (by omega)) (fun _ _ x => x) (equal9 hE p4.wf f4 (fs.pres w p04) hf4 hm4 ?_ 0)
      intro h5 p5
      have t2 : g4.map (·.1) = g.map (·.1) := by rw [e4, e1]; exact there_back hfr
      rw [decide_eq_true t2]
      simp only []
      exact hQ _ _ _ (p0.trans (p04.trans p5)) rfl
  | true =>
    have hpw := push_wr (h := h) (c := [.int .i64 0, .int .i64 0, .int .i64 0, .int .i64 0, .int .i64 0, .str []]) (vs := [.int .i64 (-7), .int .i64 0, .int .i64 0, .int .i64 0, .int .i64 0, .str []]) rfl
    have p1 := (Pres.push w (.cells [.int .i64 0, .int .i64 0, .int .i64 0, .int .i64 0, .int .i64 0, .str []])).set (Nat.le_refl _) (Nat.lt_succ_self _) (.cells [.int .i64 (-7), .int .i64 0, .int .i64 0, .int .i64 0, .int .i64 0, .str []])
    have r1 : ((h.push (.cells [.int .i64 0, .int .i64 0, .int .i64 0, .int .i64 0, .int .i64 0, .str []])).set h.next (.cells [.int .i64 (-7), .int .i64 0, .int .i64 0, .int .i64 0, .int .i64 0, .str []])).rd h.next 0 6 = some other.cells :=
      (rd_of (by rw [H.get_set, if_pos rfl]) (Nat.le_of_ble_eq_true rfl)).trans rfl
    have n1 : ((h.push (.cells [.int .i64 0, .int .i64 0, .int .i64 0, .int .i64 0, .int .i64 0, .str []])).set h.next (.cells [.int .i64 (-7), .int .i64 0, .int .i64 0, .int .i64 0, .int .i64 0, .str []])).next = h.next + 1 := rfl
    cases hd : decide (r ∈ g.flatMap valsOf) with
    | false =>
      simp only [endB, fn3, ↓q_region, ↓q_skip, ↓q_ret, ↓q_cond, ↓q_nil, q_wanted, q_putL, q_putT, q_putN, q_evl, q_evt, q_evc, q_mapsome, evOp, List.getD_cons_zero, List.getD_cons_succ, List.set_cons_zero, List.set_cons_succ, if_true, if_false, Nat.reduceEqDiff, Bool.false_eq_true, List.length_cons, List.length_nil, List.take_zero, List.drop_succ_cons, List.drop_zero, List.cons_append, List.nil_append, Nat.reduceAdd, Nat.reduceLeDiff, Nat.zero_add, and_self, List.all_cons, List.all_nil, c_int, c_str, Bool.and_self, Bool.not_true, Bool.not_false, fill, p_agg, p_int, eq_self, u_not, ↓z_seq, ↓z_snrm, ↓z_some, ↓z_gtrue, ↓z_gfalse, ↓z_gcall, ↓z_mv, ↓zg_mv, ↓z_pick, ↓zg_pick, ↓z_alloc, ↓z_build, ↓zg_load, ↓z_store, ↓z_un, ↓zg_un, b_tt, b_tf, hpw]
      exact hQ _ _ _ (p0.trans p1) rfl
    | true =>
      simp only [endB, fn3, ↓q_region, ↓q_skip, ↓q_cond, ↓q_nil, q_wanted, q_putL, q_putT, q_putN, q_evl, q_evt, q_evc, q_mapsome, evOp, List.getD_cons_zero, List.getD_cons_succ, List.set_cons_zero, List.set_cons_succ, if_true, if_false, Nat.reduceEqDiff, Bool.false_eq_true, List.length_cons, List.length_nil, List.take_zero, List.drop_succ_cons, List.drop_zero, List.cons_append, List.nil_append, Nat.reduceAdd, Nat.reduceLeDiff, Nat.zero_add, and_self, List.all_cons, List.all_nil, c_int, c_str, Bool.and_self, Bool.not_true, fill, p_agg, p_int, eq_self, u_not, ↓z_seq, ↓z_snrm, ↓z_some, ↓z_gtrue, ↓z_mv, ↓zg_mv, ↓z_alloc, ↓z_build, ↓zg_load, ↓z_store, ↓z_un, ↓zg_un, b_tt, b_ff, hpw]
      generalize (h.push (.cells [.int .i64 0, .int .i64 0, .int .i64 0, .int .i64 0, .int .i64 0, .str []])).set h.next (.cells [.int .i64 (-7), .int .i64 0, .int .i64 0, .int .i64 0, .int .i64 0, .str []]) = h1 at *
      have hb91 := rd_pres w p1 hb9
      simp only [q_wanted, q_putT, q_evl, q_evt, q_evf, q_mapsome, evOp, List.getD_cons_zero, List.getD_cons_succ, if_true, if_false, Nat.reduceEqDiff, List.map_cons, List.map_nil, List.nil_append, List.append_nil, eq_self, ↓z_span, ↓z_some, ↓z_gtrue, ↓z_gcall, ↓zg_mv, ↓zg_load, ↓zg_un, b_ff, hb91, r1, callV]
      refine callF_le hE.mono (sems_le hE.mono (0 + m + g.length + 200) _ (by omega)) (fun _ _ x => x) (replace8 hE p1.wf (fs.pres w p1) hf hm ?_ 0)
      intro v2 g2 h2 p2 f2 e2
      obtain ⟨hf2, hl2, hm2⟩ := fits_of e2 hf hm
      have p02 := p1.trans p2
      simp only []
      refine callF_le hE.mono (sems_le hE.mono (0 + m + g2.length + 110) _ (by omega)) (fun _ _ x => x) (equal9 hE p2.wf f2 (fs.pres w p02) hf2 hm2 ?_ 0)
      intro h3 p3
      have t1 : ¬ g2.map (·.1) = g.map (·.1) := by
        rw [e2]
        intro e
        have := frs_fix.1 e r (of_decide_eq_true hd)
        unfold repl at this
        rw [if_pos rfl] at this
        exact hro this.symm
      rw [decide_eq_false t1]
      simp only [↓q_ret, ↓q_nil, q_wanted, q_putL, q_putT, q_evt, q_evc, q_mapsome, evOp, List.set_cons_zero, List.set_cons_succ, if_true, if_false, Nat.reduceEqDiff, Bool.false_eq_true, Bool.not_false, eq_self, u_not, ↓z_snrm, ↓z_some, ↓z_gtrue, ↓z_mv, ↓z_pick, ↓zg_pick, b_tt]
      exact hQ _ _ _ (p0.trans (p02.trans p3)) rfl
end Go.Abs.Sy

namespace Go.Abs.Sy
open Go.Abs

variable {E : Env}

theorem awake_run {h : H} (h8 : 8 ≤ h.next) : mAwake.run [] h = some (.ret (.bool true), h) := by
  unfold Memo.run
  have e : (V.beqs [] mAwake.args && (Nat.ble (mAwake.n0 + mAwake.l.length) h.next && fits h mAwake.n0 mAwake.l)) = true := by
    have : Nat.ble 8 h.next = true := Nat.ble_eq_true_of_le h8
    show (true && (Nat.ble 8 h.next && true)) = true
    rw [this]; rfl
  rw [e]
  rfl

theorem IntO.pres {lo : Nat} {h h' : H} {v : V} {l : List Int} (I : IntO lo h v l) (p : Pres h h') : IntO lo h' v l := by
  rcases I with I | ⟨b, e, h1, h2, h3⟩
  · exact .inl I
  · exact .inr ⟨b, e, h1, Nat.lt_of_lt_of_le h2 p.next, by rw [p.same b h2]; exact h3⟩

set_option maxHeartbeats 1000000 in
theorem law3 (hE1 : Env1 E) (hx3 : E.ext 3 = none) {h : H} (w : WF h) (h8 : 8 ≤ h.next) {v : V} {g : List Row} (fs : FsR h v g) (hf : fits20 g) (ht : tot g ≤ 3000000000000) {m : Nat} (hm : ∀ r ∈ g, r.1.vars.length ≤ m ∧ r.1.stack.length ≤ m) {a x : SV} {n : Int} {R : Ret → H → Prop}
    (hR : ∀ h', Pres h h' → R (.ret (.bool true)) h') (k : Nat) : callF E (sems E (k + 2 * m + tot g + 500)) 3 [v, .agg a.cells, .int .i64 n, .agg x.cells] h R := by
  have hE := hE1.toEnv0
  have htl : g.length ≤ tot g := Nat.le_add_left _ _
  rw [show k + 2 * m + tot g + 500 = (k + 2 * m + tot g + 499) + 1 from by omega]
  refine call_in hE.mono hx3 (by rw [hE.ft]; rfl) rfl rfl ?_
  show (sems E (k + 2 * m + tot g + 499)).code _ fn3.body ⟨[v, .agg a.cells, .int .i64 n, .agg x.cells, .tup [], .tup [], .tup [], .tup [], .tup [], .tup [], .tup [], .tup [], .tup [], .tup [], .tup [], .tup [], .tup [], .tup []], [], [], h⟩ (EndQ [.loc 6] R)
  have hbd : fn3.body = (.seq (.region [⟨.l 4, .box (.l 1), none, 0⟩,
 ⟨.l 5, .box (.l 3), none, 0⟩,
 ⟨.l 6, .mv (.c (.bool false)), none, 0⟩])
 (.seq (.region [⟨.t 20, .call (.f 4) [], none, 0⟩,
 ⟨.l 7, .mv (.t 20), none, 0⟩])
 (.seq (.seq (.region [⟨.t 21, .mv (.l 0), none, 0⟩,
 ⟨.t 22, .call (.f 5) [.t 21], none, 0⟩,
 ⟨.t 23, .bin (.gtr) (.t 22) (.c (.int (.i64) 2500)), none, 0⟩])
 (.cond (.t 23) (.seq (.region [⟨.t 24, .mv (.l 7), none, 0⟩,
 ⟨.l 6, .mv (.t 24), none, 0⟩])
 .ret)
 .skip))
 (.seq (.region [⟨.t 25, .mv (.l 0), none, 0⟩,
 ⟨.t 26, .call (.f 6) [.t 25], none, 0⟩,
 ⟨.l 8, .mv (.t 26), none, 0⟩])
 (.seq (.region [⟨.t 27, .mv (.l 2), none, 0⟩,
 ⟨.t 28, .call (.f 7) [.t 27], none, 0⟩,
 ⟨.l 9, .alloc [.int (.i64) 0, .int (.i64) 0, .int (.i64) 0, .int (.i64) 0, .int (.i64) 0, .str []], none, 0⟩,
 ⟨.n, .store 6 (.l 9) (.t 28), none, 0⟩])
 (.seq (.region [⟨.l 10, .mv (.c (.bool false)), none, 0⟩])
 (.seq (.region [⟨.l 11, .mv (.c (.bool false)), none, 0⟩])
 (.seq (.seq (.region [⟨.l 12, .mv (.c (.int (.i64) 0)), none, 0⟩])
 (.block 0 (.loop ocB)))
 (.seq (.seq (.region [⟨.l 13, .mv (.c (.int (.i64) 0)), none, 0⟩])
 (.block 2 (.loop exB)))
 endB))))))))) := rfl
  rw [hbd]
  have ca : a.cells.all V.cellOK = true := rfl
  have cx : x.cells.all V.cellOK = true := rfl
  have p1 : Pres h ((h.push (.cells a.cells)).push (.cells x.cells)) := (Pres.push w _).trans (Pres.push (Pres.push w _).wf _)
  have g4 : ((h.push (.cells a.cells)).push (.cells x.cells)).rd h.next 0 6 = some a.cells :=
    (rd_of (by rw [H.get_push, if_neg (show ¬ h.next = (h.push _).next from Nat.ne_of_lt (Nat.lt_succ_self _)), H.get_push, if_pos rfl]) (Nat.le_of_ble_eq_true rfl)).trans rfl
  have g5 : ((h.push (.cells a.cells)).push (.cells x.cells)).rd (h.next + 1) 0 6 = some x.cells :=
    (rd_of (by rw [H.get_push, if_pos (show h.next + 1 = (h.push _).next from rfl)]) (Nat.le_of_ble_eq_true rfl)).trans rfl
  simp only [↓q_region, ↓q_nil, q_putL, q_putT, q_evl, q_evt, q_evc, q_evf, q_mapsome, evOp, List.getD_cons_zero, List.getD_cons_succ, List.set_cons_zero, List.set_cons_succ, if_true, if_false, Nat.reduceEqDiff, List.map_cons, List.map_nil, List.nil_append, List.append_nil, p_agg, eq_self, H.next_push, ↓z_seq, ↓z_snrm, ↓z_span, ↓z_some, ↓z_call, ↓z_mv, ↓z_box, ↓z_bin, callV]
  generalize (h.push (.cells a.cells)).push (.cells x.cells) = h1 at *
  have w1 := p1.wf
  refine callF_ext hE1.awake (awake_run (by have := p1.next; omega)) ?_
  simp only []
  refine callF_le hE.mono (sems_le hE.mono (0 + g.length + 40) _ (by omega)) (fun _ _ x => x) (size5 hE (fs.pres w p1) hf ?_ 0)
  intro sz
  have fin : ∀ loc tl hh, Pres h hh → loc[6]? = some (.bool true) → EndQ [.loc 6] R X.ret ⟨loc, tl, [], hh⟩ := by
    intro loc tl hh p hl
    refine ⟨rfl, .bool true, ?_, hR hh p⟩
    simp only [resAll, resList, resOf, hl, Option.map_some]
  cases hsz : decide (sz > 2500) with
  | true =>
    simp only [↓q_region, ↓q_ret, ↓q_cond, ↓q_nil, q_putL, q_putT, q_evl, q_evt, q_mapsome, evOp, List.getD_cons_zero, List.getD_cons_succ, List.set_cons_zero, List.set_cons_succ, if_true, if_false, Nat.reduceEqDiff, eq_self, b_gtr, ↓z_seq, ↓z_snrm, ↓z_sret, ↓z_some, ↓z_mv, hsz]
    exact fin _ _ _ p1 rfl
  | false =>
    simp only [↓q_region, ↓q_skip, ↓q_cond, ↓q_nil, q_putL, q_putT, q_evl, q_evt, q_evf, q_mapsome, evOp, List.getD_cons_zero, List.getD_cons_succ, List.set_cons_zero, List.set_cons_succ, if_true, if_false, Nat.reduceEqDiff, List.map_cons, List.map_nil, Bool.false_eq_true, List.nil_append, List.append_nil, eq_self, b_gtr, ↓z_seq, ↓z_snrm, ↓z_span, ↓z_some, ↓z_call, ↓z_mv, ↓z_alloc, ↓z_store, hsz, callV]
    refine callF_le hE.mono (sems_le hE.mono (0 + m + tot g + 200) _ (by omega)) (fun _ _ x => x) (uses6 hE1 w1 (fs.pres w p1) hf ht hm ?_ 0)
    intro u l h2 p2 own hll hl
    have cu : u.cellOK = true := by rcases own with ⟨rfl, _⟩ | ⟨B, rfl, _⟩ <;> rfl
    simp only []
    refine callF_le hE.mono (sems_le hE.mono (0 + 10) _ (by omega)) (fun _ _ x => x) (reg7 hE (k := 0) p2.wf ?_)
    intro h3 p3
    have hpw := push_wr (h := h3) (c := [.int .i64 0, .int .i64 0, .int .i64 0, .int .i64 0, .int .i64 0, .str []]) (vs := (regOf n).cells) rfl
    have p4 := (Pres.push p3.wf (.cells [.int .i64 0, .int .i64 0, .int .i64 0, .int .i64 0, .int .i64 0, .str []])).set (Nat.le_refl _) (Nat.lt_succ_self _) (.cells (regOf n).cells)
    have r9 : ((h3.push (.cells [.int .i64 0, .int .i64 0, .int .i64 0, .int .i64 0, .int .i64 0, .str []])).set h3.next (.cells (regOf n).cells)).rd h3.next 0 6 = some (regOf n).cells :=
      (rd_of (by rw [H.get_set, if_pos rfl]) (Nat.le_of_ble_eq_true rfl)).trans rfl
    have cr : (regOf n).cells.all V.cellOK = true := rfl
    have cl : (regOf n).cells.length = 6 := rfl
    simp only [↓q_region, ↓q_nil, q_putL, q_putN, q_evc, q_mapsome, evOp, List.set_cons_zero, List.set_cons_succ, if_true, and_self, p_agg, eq_self, ↓z_seq, ↓z_block, ↓z_snrm, ↓z_some, ↓z_mv, hpw, cr, cl]
    generalize (h3.push (.cells [.int .i64 0, .int .i64 0, .int .i64 0, .int .i64 0, .int .i64 0, .str []])).set h3.next (.cells (regOf n).cells) = h4 at *
    have p24 := p3.trans p4
    have p14 := p2.trans p24
    have p04 := p1.trans p14
    have own4 := own.pres p24
    have ol := occLoop (E := E) (cx := ⟨3, none⟩) own4 (by omega) (q := n) (a0 := v) (a1 := .agg a.cells) (a3 := .agg x.cells) (a4 := .ptr h.next 0) (a5 := .ptr (h.next + 1) 0) (a6 := .bool false) (a7 := .bool true) (a9 := .ptr h3.next 0) (a11 := .bool false) (a13 := .tup []) (a14 := .tup []) (a15 := .tup []) (a16 := .tup []) (a17 := .tup [])
      (Q := blockK 0
        (seqK E (k + 2 * m + tot g + 491) ⟨3, none⟩
          (((ACode.region [{ d := D.l 13, op := AOp.mv (A.c (V.int IntKind.i64 0)) }]).seq (ACode.block 2 exB.loop)).seq endB)
          (EndQ [Res.loc 6] R))) ?_ 0 l.length 0 [] (by omega)
    · rw [List.take_zero] at ol
      exact (sems_le hE.mono _ _ (by omega)).code _ _ _ _ _ (fun _ _ x => x) ol
    intro a12 tl
    simp only [↓q_region, ↓q_nil, q_putL, q_evc, evOp, List.set_cons_zero, List.set_cons_succ, if_true, eq_self, ↓z_seq, ↓z_block, ↓z_snrm, ↓z_sexit, ↓z_bexit, ↓z_some, ↓z_mv]
    have el := exLoop (E := E) hE.mono (cx := ⟨3, none⟩) p04.wf (fs.pres w p04) hf hm p04 (r := regOf n) r9 (a1 := .agg a.cells) (a2 := .int .i64 n) (a3 := .agg x.cells) (a4 := .ptr h.next 0) (a5 := .ptr (h.next + 1) 0) (a6 := .bool false) (a7 := .bool true) (a8 := u) (a10 := .bool (decide (n ∈ l))) (a12 := a12) (a16 := .tup []) (a17 := .tup [])
      (Q := blockK 2 (seqK E (k + 2 * m + tot g + 490) ⟨3, none⟩ endB (EndQ [Res.loc 6] R))) ?_ 0 g.length 0 (.tup []) (.tup []) [] h4 (by omega) (Pres.refl p04.wf)
    · rw [List.take_zero] at el
      exact (sems_le hE.mono _ _ (by omega)).code _ _ _ _ _ (fun _ _ x => x) el
    intro a13 a14 a15 tl hh ph
    simp only [if_true, eq_self, ↓z_snrm, ↓z_sexit, ↓z_bexit]
    have p0h := p04.trans ph
    refine (sems_le hE.mono (0 + m + g.length + 300) _ (by omega)).code _ _ _ _ _ (fun _ _ x => x) (lawEnd hE p0h (fs.pres w p0h) hf hm (rd_pres w1 (p14.trans ph) g4) (rd_pres w1 (p14.trans ph) g5) (rd_pres p04.wf ph r9) ?_ ?_ fin 0)
    · intro hoc hr
      exact of_decide_eq_false hoc ((hl n).2 (.inl ⟨regOf n, hr, rfl, rfl⟩))
    · intro e; unfold regOf other at e; injection e with e; cases e
end Go.Abs.Sy
