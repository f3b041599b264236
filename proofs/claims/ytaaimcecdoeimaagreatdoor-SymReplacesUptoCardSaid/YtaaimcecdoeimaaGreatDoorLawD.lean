/-
  sym.Uses: the registers that occur.
-/
import Derived.Test.YtaaimcecdoeimaaGreatDoorLawC
namespace Go.Abs.Sy
open Go.Abs

variable {E : Env}

/-- a map whose keys are numbers -/
structure MapI (es : Es) (cl : Nat) (S : Int → Prop) : Prop where
  keys : ∀ e ∈ es, ∃ n, e.1 = .int .i64 n
  born : ∀ e ∈ es, e.2.2 < cl
  stamps : (es.map (·.2.2)).Pairwise (· ≠ ·)
  has : ∀ n, (∃ e ∈ es, e.1 = .int .i64 n) ↔ S n

theorem MapI.cong {es : Es} {cl : Nat} {S T : Int → Prop} (M : MapI es cl S) (h : ∀ n, S n ↔ T n) : MapI es cl T := ⟨M.keys, M.born, M.stamps, fun n => (M.has n).trans (h n)⟩

theorem MapI.empty : MapI [] 0 fun _ => False := ⟨(fun e he => by cases he), (fun e he => by cases he), List.Pairwise.nil, fun n => ⟨(fun ⟨e, he, _⟩ => by cases he), False.elim⟩⟩

theorem findE_int {n : Int} : ∀ {es : Es} {i : Nat}, (∀ e ∈ es, ∃ n, e.1 = .int .i64 n) → (findE (.one .int) (.int .i64 n) es i = some none) ∨ ∃ j v m, findE (.one .int) (.int .i64 n) es i = some (some (i + j, .int .i64 n, v, m)) ∧ es[j]? = some (.int .i64 n, v, m)
  | [], i, _ => .inl rfl
  | (k, v, m) :: r, i, hk => by
    obtain ⟨q, hq⟩ := hk (k, v, m) List.mem_cons_self
    simp only at hq
    subst hq
    by_cases hn : n = q
    · subst hn
      refine .inr ⟨0, v, m, ?_, rfl⟩
      unfold findE
      rw [show eqD (.one .int) (.int .i64 n) (.int .i64 n) = some true from by simp only [eqD, eqCell, if_true, beq_self_eq_true]]
      rfl
    · have e : findE (.one .int) (.int .i64 n) ((.int .i64 q, v, m) :: r) i = findE (.one .int) (.int .i64 n) r (i + 1) := by
        conv => lhs; unfold findE
        rw [show eqD (.one .int) (.int .i64 n) (.int .i64 q) = some false from by
          simp only [eqD, eqCell, if_true, Option.some.injEq, beq_eq_false_iff_ne, ne_eq]; exact hn]
      rw [e]
      rcases findE_int (n := n) (es := r) (i := i + 1) fun e he => hk e (List.mem_cons_of_mem _ he) with h | ⟨j, v', m', h, hj⟩
      · exact .inl h
      · exact .inr ⟨j + 1, v', m', by rw [h, Nat.add_assoc, Nat.add_comm 1 j], hj⟩

theorem MapI.new {es : Es} {cl : Nat} {S : Int → Prop} (M : MapI es cl S) (n : Int) (x : V) : MapI (es ++ [(.int .i64 n, x, cl)]) (cl + 1) fun q => S q ∨ q = n := by
  refine ⟨fun e he => ?_, fun e he => ?_, ?_, fun q => ?_⟩
  · rcases List.mem_append.1 he with he | he
    · exact M.keys e he
    · rw [List.mem_singleton.1 he]; exact ⟨n, rfl⟩
  · rcases List.mem_append.1 he with he | he
    · exact Nat.lt_succ_of_lt (M.born e he)
    · rw [List.mem_singleton.1 he]; exact Nat.lt_succ_self _
  · rw [List.map_append, List.pairwise_append]
    refine ⟨M.stamps, List.pairwise_singleton _ _, ?_⟩
    intro a ha b hb
    obtain ⟨e, he, rfl⟩ := List.mem_map.1 ha
    rw [List.map_cons, List.map_nil, List.mem_singleton] at hb
    rw [hb]; exact Nat.ne_of_lt (M.born e he)
  · rw [← M.has q]
    constructor
    · rintro ⟨e, he, hq⟩
      rcases List.mem_append.1 he with he | he
      · exact .inl ⟨e, he, hq⟩
      · rw [List.mem_singleton.1 he] at hq
        injection hq with _ hq
        exact .inr hq.symm
    · rintro (⟨e, he, hq⟩ | rfl)
      · exact ⟨e, List.mem_append_left _ he, hq⟩
      · exact ⟨_, List.mem_append_right _ (List.mem_singleton.2 rfl), rfl⟩

theorem MapI.old {es : Es} {cl : Nat} {S : Int → Prop} (M : MapI es cl S) {n : Int} {j m : Nat} {v : V} (hj : es[j]? = some (.int .i64 n, v, m)) (x : V) : MapI (es.set j (.int .i64 n, x, m)) cl fun q => S q ∨ q = n := by
  have hmem : (.int .i64 n, v, m) ∈ es := List.mem_of_getElem? hj
  have hlt : j < es.length := (List.getElem?_eq_some_iff.1 hj).1
  have hS : S n := (M.has n).1 ⟨_, hmem, rfl⟩
  have sub : ∀ e ∈ es.set j (.int .i64 n, x, m), e = (.int .i64 n, x, m) ∨ e ∈ es := fun e he => (List.mem_or_eq_of_mem_set he).symm
  refine ⟨fun e he => ?_, fun e he => ?_, ?_, fun q => ?_⟩
  · rcases sub e he with rfl | he
    · exact ⟨n, rfl⟩
    · exact M.keys e he
  · rcases sub e he with rfl | he
    · exact (show m < cl from M.born _ hmem)
    · exact M.born e he
  · rw [List.map_set]
    have e : (es.map (·.2.2)).set j m = es.map (·.2.2) := by
      have hm : (es.map (·.2.2))[j]? = some m := by rw [List.getElem?_map, hj]; rfl
      obtain ⟨h1, h2⟩ := List.getElem?_eq_some_iff.1 hm
      conv => rhs; rw [← List.set_getElem_self h1]
      rw [h2]
    rw [show ((V.int .i64 n, x, m) : V × V × Nat).2.2 = m from rfl, e]
    exact M.stamps
  · rw [← M.has q]
    constructor
    · rintro ⟨e, he, hq⟩
      rcases sub e he with rfl | he
      · injection hq with _ hq
        exact .inr hq.symm
      · exact .inl ⟨e, he, hq⟩
    · intro hh
      have hq : ∃ e ∈ es, e.1 = .int .i64 q := by
        rcases hh with h | rfl
        · exact h
        · exact ⟨_, hmem, rfl⟩
      obtain ⟨e, he, hq⟩ := hq
      obtain ⟨i, hi⟩ := List.mem_iff_getElem?.1 he
      by_cases hij : i = j
      · subst hij
        rw [hi] at hj; cases hj
        exact ⟨(.int .i64 n, x, m), List.mem_iff_getElem?.2 ⟨i, List.getElem?_set_self hlt⟩, hq⟩
      · exact ⟨e, List.mem_iff_getElem?.2 ⟨i, by rw [List.getElem?_set_ne (Ne.symm hij)]; exact hi⟩, hq⟩

/-- a register's number occurs in values -/
def Occ (l : List SV) (n : Int) : Prop := ∃ s ∈ l, s.k = 1 ∧ s.n = n
theorem Occ.snoc {l : List SV} {s : SV} {n : Int} : Occ (l ++ [s]) n ↔ Occ l n ∨ (s.k = 1 ∧ n = s.n) := by
  constructor
  · rintro ⟨x, hx, h1, h2⟩
    rcases List.mem_append.1 hx with hx | hx
    · exact .inl ⟨x, hx, h1, h2⟩
    · rw [List.mem_singleton.1 hx] at h1 h2; exact .inr ⟨h1, h2.symm⟩
  · rintro (⟨x, hx, h1, h2⟩ | ⟨h1, h2⟩)
    · exact ⟨x, List.mem_append_left _ hx, h1, h2⟩
    · exact ⟨s, List.mem_append_right _ (List.mem_singleton.2 rfl), h1, h2.symm⟩
/-- an activation's register -/
def OccA (g : List Row) (n : Int) : Prop := ∃ r ∈ g, r.1.act ≠ 0 ∧ IntKind.wrap .i64 (r.1.act - 1) = n

def upA : ACode := .region [⟨.l 3, .mv (.l 7), none, 0⟩]
def upB : ACode := match fn6.body with
  | .seq _ (.seq _ (.seq (.seq _ (.block _ (.rfun _ _ _ b))) _)) => b
  | _ => .skip

/-- what holds between the rounds -/
structure UI (h0 : H) (lo : Nat) (v : V) (box l b2 mb : Nat) (loc : List V) (g : List Row) (seen : List SV) (h : H) : Prop where
  out : OutR lo h v g
  bx : h.rd box 0 1 = some [v]
  pres : Pres h0 h
  lp : h.get l = some (.loop .ready none 6 loc [.t 14, .l 7] upA upB)
  r2 : h.rd b2 0 1 = some [.map mb]
  mp : ∃ es cl, h.get mb = some (.map es cl) ∧ MapI es cl (Occ seen) ∧ es.length ≤ seen.length
  bds : b2 < lo ∧ mb < lo ∧ b2 ≠ mb ∧ h0.next ≤ mb ∧ lo ≤ box ∧ box < l ∧ l < h.next ∧ (∀ c ∈ blks g, c < box) ∧ ∀ B o n c, v = .sl B o n c → B < box

theorem OutR.setLow {lo : Nat} {h : H} {v : V} {g : List Row} (o : OutR lo h v g) {b : Nat} (hb : b < lo) (ob : O) : OutR lo (h.set b ob) v g := by
  refine o.set (fun q => by have := (o.1.blk _ q).1; omega) ?_ ob
  intro B o' n c e
  rcases o.2 with ⟨e2, _⟩ | ⟨B', e2, h1, _⟩
  · rw [e2] at e; cases e
  · rw [e2] at e; injection e with e; omega

theorem us_round (_hE : ExtMono E) {h0 : H} {lo : Nat} {v : V} {box l b2 mb : Nat} {x0 x1 x3 x4 x5 x6 x7 x8 x9 x10 x11 : V} {A C : List Row} {f f' : Fr} {vv sv : V} {seen : List SV} {h : H} {c o : Nat} {s : SV}
    (I : UI h0 lo v box l b2 mb [x0, x1, .ptr b2 0, x3, x4, x5, x6, x7, x8, x9, x10, x11] (A ++ (f, vv, sv) :: C) seen h) (sp : Spot (fun s => s) v A.length f vv sv c o s f') (k : Nat) :
    callV E (sems E (k + 20)) (.fn (.yield l) [] []) [.int .i64 A.length, .ptr c o] h fun r h' => r = .ret (.bool true) ∧ UI h0 lo v box l b2 mb [x0, x1, .ptr b2 0, x3, x4, x5, x6, x7, x8, x9, x10, x11] (A ++ (f', vv, sv) :: C) (seen ++ [s]) h' := by
  obtain ⟨rs, hlo, hlt, hwhere, _⟩ := Spot.turn I.out sp
  obtain ⟨d1, d2, d3, d4, d5, d6, d7, d8, d9⟩ := I.bds
  have hff := Spot.id sp rfl
  subst hff
  have hcb : c < box := by
    rcases hwhere with e | e
    · exact d9 _ _ _ _ e
    · exact d8 c e
  have hcl : c ≠ l := by omega
  have hcm : c ≠ mb := by omega
  obtain ⟨es, cl, gm, M, hes⟩ := I.mp
  unfold callV
  simp only [List.nil_append]
  unfold roundF
  rw [I.lp]
  have rdne : ∀ (hh : H) (x y q n : Nat) (oo : O), x ≠ y → (hh.set y oo).rd x q n = hh.rd x q n := fun hh x y q n oo hxy => by unfold H.rd; rw [H.get_set, if_neg hxy]
  have gs := (rdne h c l o 6 (.loop .busy none 6 [x0, x1, .ptr b2 0, x3, x4, x5, x6, x7, x8, x9, x10, x11] [.t 14, .l 7] upA upB) hcl).trans rs
  have g2 := (rdne h b2 l 0 1 (.loop .busy none 6 [x0, x1, .ptr b2 0, x3, x4, x5, x6, x7, x8, x9, x10, x11] [.t 14, .l 7] upA upB) (by omega)).trans I.r2
  have gm2 : (h.set l (.loop .busy none 6 [x0, x1, .ptr b2 0, x3, x4, x5, x6, x7, x8, x9, x10, x11] [.t 14, .l 7] upA upB)).get mb = some (.map es cl) := by
    rw [H.get_set, if_neg (by omega)]; exact gm
  have gl : (h.set l (.loop .busy none 6 [x0, x1, .ptr b2 0, x3, x4, x5, x6, x7, x8, x9, x10, x11] [.t 14, .l 7] upA upB)).get l = some (.loop .busy none 6 [x0, x1, .ptr b2 0, x3, x4, x5, x6, x7, x8, x9, x10, x11] [.t 14, .l 7] upA upB) := by rw [H.get_set, if_pos rfl]
  have hlp := I.lp
  have r0 := rd_part gs 0 1 (by omega)
  have r1 := rd_part gs 1 1 (by omega)
  rw [show (s.cells.drop 0).take 1 = [.int .i64 s.k] from rfl] at r0
  rw [show (s.cells.drop 1).take 1 = [.int .i64 s.n] from rfl] at r1
  simp only [q_putL, q_putT, List.set_cons_zero, List.set_cons_succ, if_true, List.length_cons, List.length_nil, Nat.reduceAdd, Nat.zero_add, true_and, eq_self, List.zip_cons_cons, List.zip_nil_right, List.foldl_cons, List.foldl_nil]
  unfold upA
  simp only [↓q_region, ↓q_nil, q_putL, q_evl, evOp, List.getD_cons_zero, List.getD_cons_succ, List.set_cons_zero, List.set_cons_succ, ↓z_some, ↓z_mv, hlp]
  by_cases hk : s.k = 1
  · have hd : (s.k == 1) = true := by rw [hk]; rfl
    -- whatever the map is then
    have fin : ∀ es' cl', MapI es' cl' (fun q => Occ seen q ∨ q = s.n) → es'.length ≤ es.length + 1 →
        UI h0 lo v box l b2 mb [x0, x1, .ptr b2 0, x3, x4, x5, x6, x7, x8, x9, x10, x11] (A ++ (f', vv, sv) :: C) (seen ++ [s]) (((h.set l (.loop .busy none 6 [x0, x1, .ptr b2 0, x3, x4, x5, x6, x7, x8, x9, x10, x11] [.t 14, .l 7] upA upB)).set mb (.map es' cl')).set l (.loop .ready none 6 [x0, x1, .ptr b2 0, x3, x4, x5, x6, x7, x8, x9, x10, x11] [.t 14, .l 7] upA upB)) := by
      intro es' cl' M' hl'
      have hsame : SameH (h.set mb (.map es' cl')) (((h.set l (.loop .busy none 6 [x0, x1, .ptr b2 0, x3, x4, x5, x6, x7, x8, x9, x10, x11] [.t 14, .l 7] upA upB)).set mb (.map es' cl')).set l (.loop .ready none 6 [x0, x1, .ptr b2 0, x3, x4, x5, x6, x7, x8, x9, x10, x11] [.t 14, .l 7] upA upB)) := by
        refine ⟨fun x => ?_, rfl⟩
        simp only [H.get_set]
        by_cases h1 : x = l
        · rw [if_pos h1, if_neg (by omega), h1, I.lp]
        · rw [if_neg h1, if_neg h1]
      refine ⟨hsame.outR (I.out.setLow d2 _), (hsame.rd _ _ _).trans ((rdne h box mb 0 1 _ (by omega)).trans I.bx), hsame.pres (I.pres.set d4 (by omega) _), by rw [H.get_set, if_pos rfl], (hsame.rd _ _ _).trans ((rdne h b2 mb 0 1 _ d3).trans I.r2), ⟨es', cl', ?_, M'.cong fun n => ?_, ?_⟩, ⟨d1, d2, d3, d4, d5, d6, Nat.lt_of_lt_of_eq d7 hsame.next.symm, d8, d9⟩⟩
      · rw [hsame.get, H.get_set, if_pos rfl]
      · rw [Occ.snoc]; constructor
        · rintro (h | h)
          · exact .inl h
          · exact .inr ⟨hk, h⟩
        · rintro (h | h)
          · exact .inl h
          · exact .inr h.2
      · rw [List.length_append, List.length_singleton]; omega
    rcases findE_int (n := s.n) (i := 0) M.keys with hfe | ⟨j, v1, m1, hfe, hj⟩
    · have f1 := fin _ _ (M.new s.n (.bool true)) (by rw [List.length_append]; exact Nat.le_refl _)
      have gl2 : ((h.set l (.loop .busy none 6 [x0, x1, .ptr b2 0, x3, x4, x5, x6, x7, x8, x9, x10, x11] [.t 14, .l 7] upA upB)).set mb (.map (es ++ [(.int .i64 s.n, .bool true, cl)]) (cl + 1))).get l = some (.loop .busy none 6 [x0, x1, .ptr b2 0, x3, x4, x5, x6, x7, x8, x9, x10, x11] [.t 14, .l 7] upA upB) := by rw [H.get_set, if_neg (by omega)]; exact gl
      generalize hhb : h.set l (.loop .busy none 6 [x0, x1, .ptr b2 0, x3, x4, x5, x6, x7, x8, x9, x10, x11] [.t 14, .l 7] upA upB) = hb at *
      simp only [upB, fn6, ↓q_region, ↓q_cond, ↓q_nil, q_putT, q_putN, q_evl, q_evt, q_evc, q_mapsome, evOp, List.getD_cons_zero, List.getD_cons_succ, if_true, if_false, Nat.reduceEqDiff, Bool.false_eq_true, true_and, List.all_cons, List.all_nil, Bool.and_self, Bool.not_true, ↓q_draw, ↓d_nil, eq_self, Bool.true_or, r_mv, r_load, r_nilck, r_faddr, b_eql, ↓z_seq, ↓z_block, ↓z_snrm, ↓z_bnrm, ↓z_some, ↓z_dsome, ↓z_fsome, ↓z_mv, ↓zd_mv, ↓z_load, ↓zd_load, ↓z_nilck, ↓zd_nilck, ↓z_bin, ↓z_faddr, ↓zd_faddr, ↓zd_mput, nilckOK, r0, r1, g2, gm2, hd, hfe, keyOK, okCell, gl2, show Nat.testBit 31 0 = true from rfl, show Nat.testBit 31 4 = true from rfl]
      exact f1
    · rw [Nat.zero_add] at hfe
      have f1 := fin _ _ (M.old hj (.bool true)) (by rw [List.length_set]; omega)
      have gl2 : ((h.set l (.loop .busy none 6 [x0, x1, .ptr b2 0, x3, x4, x5, x6, x7, x8, x9, x10, x11] [.t 14, .l 7] upA upB)).set mb (.map (es.set j (.int .i64 s.n, .bool true, m1)) cl)).get l = some (.loop .busy none 6 [x0, x1, .ptr b2 0, x3, x4, x5, x6, x7, x8, x9, x10, x11] [.t 14, .l 7] upA upB) := by rw [H.get_set, if_neg (by omega)]; exact gl
      generalize hhb : h.set l (.loop .busy none 6 [x0, x1, .ptr b2 0, x3, x4, x5, x6, x7, x8, x9, x10, x11] [.t 14, .l 7] upA upB) = hb at *
      simp only [upB, fn6, ↓q_region, ↓q_cond, ↓q_nil, q_putT, q_putN, q_evl, q_evt, q_evc, q_mapsome, evOp, List.getD_cons_zero, List.getD_cons_succ, if_true, if_false, Nat.reduceEqDiff, Bool.false_eq_true, true_and, List.all_cons, List.all_nil, Bool.and_self, Bool.not_true, ↓q_draw, ↓d_nil, eq_self, Bool.true_or, r_mv, r_load, r_nilck, r_faddr, b_eql, ↓z_seq, ↓z_block, ↓z_snrm, ↓z_bnrm, ↓z_some, ↓z_dsome, ↓z_fsome, ↓z_mv, ↓zd_mv, ↓z_load, ↓zd_load, ↓z_nilck, ↓zd_nilck, ↓z_bin, ↓z_faddr, ↓zd_faddr, ↓zd_mput, nilckOK, r0, r1, g2, gm2, hd, hfe, keyOK, okCell, gl2, show Nat.testBit 31 0 = true from rfl, show Nat.testBit 31 4 = true from rfl]
      exact f1
  · have hd : (s.k == 1) = false := by simp only [beq_eq_false_iff_ne, ne_eq]; exact hk
    have hsame : SameH h ((h.set l (.loop .busy none 6 [x0, x1, .ptr b2 0, x3, x4, x5, x6, x7, x8, x9, x10, x11] [.t 14, .l 7] upA upB)).set l (.loop .ready none 6 [x0, x1, .ptr b2 0, x3, x4, x5, x6, x7, x8, x9, x10, x11] [.t 14, .l 7] upA upB)) := by
      refine ⟨fun x => ?_, rfl⟩
      simp only [H.get_set]
      by_cases h1 : x = l
      · rw [if_pos h1, h1, I.lp]
      · rw [if_neg h1, if_neg h1]
    have f1 : UI h0 lo v box l b2 mb [x0, x1, .ptr b2 0, x3, x4, x5, x6, x7, x8, x9, x10, x11] (A ++ (f', vv, sv) :: C) (seen ++ [s]) ((h.set l (.loop .busy none 6 [x0, x1, .ptr b2 0, x3, x4, x5, x6, x7, x8, x9, x10, x11] [.t 14, .l 7] upA upB)).set l (.loop .ready none 6 [x0, x1, .ptr b2 0, x3, x4, x5, x6, x7, x8, x9, x10, x11] [.t 14, .l 7] upA upB)) := by
      refine ⟨hsame.outR I.out, (hsame.rd _ _ _).trans I.bx, hsame.pres I.pres, by rw [H.get_set, if_pos rfl], (hsame.rd _ _ _).trans I.r2, ⟨es, cl, by rw [hsame.get]; exact gm, M.cong fun n => ?_, by rw [List.length_append]; omega⟩, ⟨d1, d2, d3, d4, d5, d6, Nat.lt_of_lt_of_eq d7 hsame.next.symm, d8, d9⟩⟩
      rw [Occ.snoc]; constructor
      · exact .inl
      · rintro (h | h)
        · exact h
        · exact absurd h.1 hk
    generalize hhb : h.set l (.loop .busy none 6 [x0, x1, .ptr b2 0, x3, x4, x5, x6, x7, x8, x9, x10, x11] [.t 14, .l 7] upA upB) = hb at *
    simp only [upB, fn6, ↓q_region, ↓q_skip, ↓q_cond, ↓q_nil, q_putT, q_evl, q_evt, q_evc, q_mapsome, evOp, List.getD_cons_zero, List.getD_cons_succ, if_true, if_false, Nat.reduceEqDiff, Bool.false_eq_true, eq_self, b_eql, ↓z_seq, ↓z_block, ↓z_snrm, ↓z_bnrm, ↓z_some, ↓z_mv, ↓z_load, ↓z_nilck, ↓z_bin, ↓z_faddr, nilckOK, r0, hd, gl]
    exact f1
end Go.Abs.Sy

namespace Go.Abs.Sy
open Go.Abs

variable {E : Env}

def acB : ACode := match fn6.body with
  | .seq _ (.seq _ (.seq _ (.seq (.seq _ (.block _ (.loop b))) _))) => b
  | _ => .skip
def mrB : ACode := match fn6.body with
  | .seq _ (.seq _ (.seq _ (.seq _ (.seq _ (.seq (.seq _ (.block _ (.loop b))) _))))) => b
  | _ => .skip

theorem OccA.snoc {g : List Row} {r : Row} {n : Int} : OccA (g ++ [r]) n ↔ OccA g n ∨ (r.1.act ≠ 0 ∧ n = IntKind.wrap .i64 (r.1.act - 1)) := by
  constructor
  · rintro ⟨x, hx, h1, h2⟩
    rcases List.mem_append.1 hx with hx | hx
    · exact .inl ⟨x, hx, h1, h2⟩
    · rw [List.mem_singleton.1 hx] at h1 h2; exact .inr ⟨h1, h2.symm⟩
  · rintro (⟨x, hx, h1, h2⟩ | ⟨h1, h2⟩)
    · exact ⟨x, List.mem_append_left _ hx, h1, h2⟩
    · exact ⟨r, List.mem_append_right _ (List.mem_singleton.2 rfl), h1, h2.symm⟩

/-- the map, in its box -/
structure MB2 (h0 : H) (b2 mb N : Nat) (S : Int → Prop) (h : H) : Prop where
  pres : Pres h0 h
  r2 : h.rd b2 0 1 = some [.map mb]
  mp : ∃ es cl, h.get mb = some (.map es cl) ∧ MapI es cl S ∧ es.length ≤ N
  ne : b2 ≠ mb
  lo : h0.next ≤ mb

theorem MB2.mlt {h0 : H} {b2 mb N : Nat} {S : Int → Prop} {h : H} (I : MB2 h0 b2 mb N S h) : mb < h.next := by
  obtain ⟨es, cl, gm, _⟩ := I.mp
  exact wf_lt I.pres.wf gm
theorem MB2.blt {h0 : H} {b2 mb N : Nat} {S : Int → Prop} {h : H} (I : MB2 h0 b2 mb N S h) : b2 < h.next := rd_lt I.pres.wf I.r2

theorem actLoop (_hE : Env0 E) {h : H} (w : WF h) {v : V} {g : List Row} (fs : FsR h v g) (hf : fits20 g) {b2 mb N : Nat} {S0 : Int → Prop} {a3 a5 a6 a7 a11 : V} {cx : Cx} {Q : X → St → Prop}
    (hQ : ∀ a4 tl hh, MB2 h b2 mb (N + g.length) (fun n => S0 n ∨ OccA g n) hh → Q (.exit 2) ⟨[v, .nils, .ptr b2 0, a3, a4, a5, a6, a7, v, .int .i64 g.length, .int .i64 g.length, a11], tl, [], hh⟩) (k : Nat) :
    ∀ (n i : Nat) (a4 : V) (tl : List (Nat × V)) (hh : H), i + n = g.length → MB2 h b2 mb (N + i) (fun n => S0 n ∨ OccA (g.take i) n) hh →
      (sems E (k + n + 40)).code cx (.loop acB) ⟨[v, .nils, .ptr b2 0, a3, a4, a5, a6, a7, v, .int .i64 g.length, .int .i64 i, a11], tl, [], hh⟩ Q := by
  intro n
  induction n with
  | zero =>
    intro i a4 tl hh hi I
    rw [show k + 0 + 40 = (k + 39) + 1 from by omega]
    refine loop_code ?_
    have hlt : decide ((i : Int) < (g.length : Int)) = false := by simp only [decide_eq_false_iff_not]; omega
    have hi' : i = g.length := by omega
    simp only [acB, fn6, ↓q_region, ↓q_exit, ↓q_cond, ↓q_nil, q_putT, q_evl, q_evt, q_mapsome, evOp, List.getD_cons_zero, List.getD_cons_succ, if_true, if_false, Bool.false_eq_true, eq_self, b_lss, ↓z_seq, ↓z_snrm, ↓z_sexit, ↓z_some, ↓z_bin, hlt]
    subst hi'
    rw [List.take_length] at I
    exact hQ _ _ hh I
  | succ n ih =>
    intro i a4 tl hh hi I
    rw [show k + (n + 1) + 40 = (k + n + 40) + 1 from by omega]
    refine loop_code ?_
    have hlt : decide ((i : Int) < (g.length : Int)) = true := by simp only [decide_eq_true_eq]; omega
    obtain ⟨r, hr⟩ : ∃ r, g[i]? = some r := ⟨g[i], List.getElem?_eq_getElem (by omega)⟩
    have hrm : r ∈ g := List.mem_of_getElem? hr
    obtain ⟨b, ob, cap, rfl, hrd⟩ : ∃ b ob cap, v = .sl b ob g.length cap ∧ h.rd b ob (g.length * 18) = some (rows g) := by
      rcases fs.1 with ⟨_, e⟩ | x
      · rw [e] at hr; simp at hr
      · exact x
    have hc : ((0 : Int) ≤ (i : Int) ∧ (i : Int) < (g.length : Int)) = True := by simp only [eq_iff_iff, iff_true]; omega
    have p := I.pres
    have hr1 := rd_pres w p (rd_row hrd hr)
    obtain ⟨f, vv, sv⟩ := r
    have hra := Row.all (fs.2 _ hrm)
    have hwr : IntKind.wrap .i64 ((i : Int) + 1) = ((i + 1 : Nat) : Int) := by
      rw [wrap_small (by omega) (by have := hf.1; omega)]; omega
    have hpw := push_wr (h := hh) (c := [.int .i64 0, .int .i64 0, .int .i64 0, .int .i64 0, .int .i64 0, .int .i64 0, .int .i64 0, .str [], .int .i64 0, .int .i64 0, .int .i64 0, .int .i64 0, .int .i64 0, .str [], .nils, .nils, .int .i64 0, .int .i64 0]) (vs := Row.cells (f, vv, sv)) rfl
    have p2 := (Pres.push p.wf (.cells [.int .i64 0, .int .i64 0, .int .i64 0, .int .i64 0, .int .i64 0, .int .i64 0, .int .i64 0, .str [], .int .i64 0, .int .i64 0, .int .i64 0, .int .i64 0, .int .i64 0, .str [], .nils, .nils, .int .i64 0, .int .i64 0])).set (Nat.le_refl _) (Nat.lt_succ_self _) (.cells (Row.cells (f, vv, sv)))
    have hrd2 : ((hh.push (.cells [.int .i64 0, .int .i64 0, .int .i64 0, .int .i64 0, .int .i64 0, .int .i64 0, .int .i64 0, .str [], .int .i64 0, .int .i64 0, .int .i64 0, .int .i64 0, .int .i64 0, .str [], .nils, .nils, .int .i64 0, .int .i64 0])).set hh.next (.cells (Row.cells (f, vv, sv)))).rd hh.next 17 1 = some [.int .i64 f.act] :=
      (rd_of (by rw [H.get_set, if_pos rfl]) (by rw [Row.len]; omega)).trans rfl
    have hn2 : ((hh.push (.cells [.int .i64 0, .int .i64 0, .int .i64 0, .int .i64 0, .int .i64 0, .int .i64 0, .int .i64 0, .str [], .int .i64 0, .int .i64 0, .int .i64 0, .int .i64 0, .int .i64 0, .str [], .nils, .nils, .int .i64 0, .int .i64 0])).set hh.next (.cells (Row.cells (f, vv, sv)))).next = hh.next + 1 := rfl
    have htk : g.take (i + 1) = g.take i ++ [(f, vv, sv)] := by rw [List.take_add_one, hr]; rfl
    generalize hK : (fun (x : X) (st' : St) => (match x with | .nrm => (sems E (k + n + 40)).code cx (.loop acB) st' Q | x => Q x st' : Prop)) = K
    simp only [acB, fn6, ↓q_region, ↓q_skip, ↓q_cond, ↓q_nil, q_putL, q_putT, q_putN, q_evl, q_evt, q_mapsome, evOp, List.getD_cons_zero, List.getD_cons_succ, List.set_cons_zero, List.set_cons_succ, if_true, if_false, Nat.reduceEqDiff, Bool.false_eq_true, Nat.zero_add, and_self, p_agg, eq_self, b_lss, Int.toNat_natCast, ↓z_seq, ↓z_block, ↓z_snrm, ↓z_some, ↓z_alloc, ↓z_load, ↓z_store, ↓z_bin, ↓z_faddr, ↓z_iaddr, hlt, hc, hr1, Row.len, hra, hpw]
    generalize ((hh.push (.cells [.int .i64 0, .int .i64 0, .int .i64 0, .int .i64 0, .int .i64 0, .int .i64 0, .int .i64 0, .str [], .int .i64 0, .int .i64 0, .int .i64 0, .int .i64 0, .int .i64 0, .str [], .nils, .nils, .int .i64 0, .int .i64 0])).set hh.next (.cells (Row.cells (f, vv, sv)))) = h2 at *
    obtain ⟨es, cl, gm, M, hl⟩ := I.mp
    have g2 : h2.get mb = some (.map es cl) := by rw [p2.same mb (wf_lt p.wf gm)]; exact gm
    have r2 := rd_pres p.wf p2 I.r2
    have mlt2 : mb < h2.next := wf_lt p2.wf g2
    have pp := p.trans p2
    have rdne : ∀ (hh : H) (x y q n : Nat) (oo : O), x ≠ y → (hh.set y oo).rd x q n = hh.rd x q n := fun hh x y q n oo hxy => by unfold H.rd; rw [H.get_set, if_neg hxy]
    by_cases hz : f.act = 0
    · have hd : (f.act != 0) = false := by rw [hz]; rfl
      simp only [↓q_region, ↓q_skip, ↓q_cond, ↓q_nil, q_putL, q_putT, q_evl, q_evt, q_evc, q_mapsome, evOp, List.getD_cons_zero, List.getD_cons_succ, List.set_cons_zero, List.set_cons_succ, if_true, if_false, Nat.reduceEqDiff, Bool.false_eq_true, eq_self, b_add, b_neq, ↓z_snrm, ↓z_bnrm, ↓z_some, ↓z_mv, ↓z_bin, hrd2, hd, hwr]
      rw [← hK]
      refine ih (i + 1) _ _ h2 (by omega) ⟨pp, r2, ⟨es, cl, g2, M.cong fun n => ?_, by omega⟩, I.ne, I.lo⟩
      rw [htk, OccA.snoc]
      constructor
      · rintro (h | h)
        · exact .inl h
        · exact .inr (.inl h)
      · rintro (h | h | h)
        · exact .inl h
        · exact .inr h
        · exact absurd hz h.1
    · have hd : (f.act != 0) = true := by simp only [bne_iff_ne, ne_eq]; exact hz
      have fin : ∀ es' cl', MapI es' cl' (fun q => (S0 q ∨ OccA (g.take i) q) ∨ q = IntKind.wrap .i64 (f.act - 1)) → es'.length ≤ es.length + 1 → MB2 h b2 mb (N + (i + 1)) (fun n => S0 n ∨ OccA (g.take (i + 1)) n) (h2.set mb (.map es' cl')) := by
        intro es' cl' M' hl'
        refine ⟨pp.set I.lo mlt2 _, (rdne h2 b2 mb 0 1 _ I.ne).trans r2, ⟨es', cl', by rw [H.get_set, if_pos rfl], M'.cong fun n => ?_, by omega⟩, I.ne, I.lo⟩
        rw [htk, OccA.snoc]
        constructor
        · rintro ((h | h) | h)
          · exact .inl h
          · exact .inr (.inl h)
          · exact .inr (.inr ⟨hz, h⟩)
        · rintro (h | h | h)
          · exact .inl (.inl h)
          · exact .inl (.inr h)
          · exact .inr h.2
      rcases findE_int (n := IntKind.wrap .i64 (f.act - 1)) (i := 0) M.keys with hfe | ⟨j, v1, m1, hfe, hj⟩
      · have f1 := fin _ _ (M.new _ (.bool true)) (by rw [List.length_append]; exact Nat.le_refl _)
        simp only [↓q_region, ↓q_cond, ↓q_nil, q_putL, q_putT, q_putN, q_evl, q_evt, q_evc, q_mapsome, evOp, List.getD_cons_zero, List.getD_cons_succ, List.set_cons_zero, List.set_cons_succ, if_true, if_false, Nat.reduceEqDiff, Bool.false_eq_true, Nat.zero_add, Bool.not_true, eq_self, b_add, b_sub, b_neq, ↓z_snrm, ↓z_bnrm, ↓z_some, ↓z_mv, ↓z_load, ↓z_bin, ↓z_faddr, ↓z_mput, hrd2, hd, r2, g2, hfe, keyOK, okCell, hwr]
        rw [← hK]
        exact ih (i + 1) _ _ _ (by omega) f1
      · rw [Nat.zero_add] at hfe
        have f1 := fin _ _ (M.old hj (.bool true)) (by rw [List.length_set]; omega)
        simp only [↓q_region, ↓q_cond, ↓q_nil, q_putL, q_putT, q_putN, q_evl, q_evt, q_evc, q_mapsome, evOp, List.getD_cons_zero, List.getD_cons_succ, List.set_cons_zero, List.set_cons_succ, if_true, if_false, Nat.reduceEqDiff, Bool.false_eq_true, Nat.zero_add, Bool.not_true, eq_self, b_add, b_sub, b_neq, ↓z_snrm, ↓z_bnrm, ↓z_some, ↓z_mv, ↓z_load, ↓z_bin, ↓z_faddr, ↓z_mput, hrd2, hd, r2, g2, hfe, keyOK, okCell, hwr]
        rw [← hK]
        exact ih (i + 1) _ _ _ (by omega) f1

/-- numbers in a block of their own -/
def IntO (lo : Nat) (h : H) (v : V) (l : List Int) : Prop := (v = .nils ∧ l = []) ∨ ∃ b, v = .sl b 0 l.length (.u 1) ∧ lo ≤ b ∧ b < h.next ∧ h.get b = some (.cells (l.map (.int .i64)))

/-- what holds between the rounds over the map -/
structure RM (h0 : H) (mb it : Nat) (es : Es) (cl : Nat) (seen : List Nat) (out : V) (l : List Int) (h : H) : Prop where
  pres : Pres h0 h
  iter : h.get it = some (.miter (some mb) cl seen cl)
  src : h.get mb = some (.map es cl)
  len : l.length + (leftOf es seen).length = es.length
  has : ∀ n, (n ∈ l ∨ ∃ e ∈ leftOf es seen, e.1 = .int .i64 n) ↔ ∃ e ∈ es, e.1 = .int .i64 n
  own : IntO h0.next h out l
  apart : mb ≠ it ∧ h0.next ≤ mb ∧ h0.next ≤ it ∧ ∀ b o n c, out = V.sl b o n c → b ≠ mb ∧ b ≠ it

theorem mapLoop (_hE : Env0 E) {h0 : H} {mb it : Nat} {es : Es} {cl : Nat} {S : Int → Prop} (M : MapI es cl S) (hroom : es.length ≤ 3000000000000) {a0 a1 a2 a3 a4 a7 a8 a9 a10 : V} {cx : Cx} {Q : X → St → Prop}
    (hQ : ∀ a6 tl hh out l, Pres h0 hh → IntO h0.next hh out l → (∀ n, n ∈ l ↔ S n) → l.length ≤ es.length → Q (.exit 4) ⟨[a0, a1, a2, a3, a4, out, a6, a7, a8, a9, a10, .ptr it 0], tl, [], hh⟩) (k : Nat) :
    ∀ (n : Nat) (seen : List Nat) (out : V) (l : List Int) (a6 : V) (tl : List (Nat × V)) (hh : H), (leftOf es seen).length = n → RM h0 mb it es cl seen out l hh →
      (sems E (k + n + 40)).code cx (.loop mrB) ⟨[a0, a1, a2, a3, a4, out, a6, a7, a8, a9, a10, .ptr it 0], tl, [], hh⟩ Q := by
  have hborn : (es.all fun x => decide (x.2.2 < cl)) = true := by
    rw [List.all_eq_true]; intro x hx; simp only [decide_eq_true_eq]; exact M.born x hx
  intro n
  induction n with
  | zero =>
    intro seen out l a6 tl hh hn I
    rw [show k + 0 + 40 = (k + 39) + 1 from by omega]
    refine loop_code ?_
    have hnil := List.length_eq_zero_iff.1 hn
    have hfin := hQ
    simp only [mrB, fn6, ↓q_region, ↓z_seq]
    refine run_step ?_
    unfold stepOp
    simp only [q_putT, q_evl, q_evt, evOp, List.getD_cons_zero, List.getD_cons_succ, if_true, true_and, eq_self, ↓z_extract, I.iter, I.src, hborn]
    refine ⟨fun _ => ?_, fun x hx => by rw [hnil] at hx; cases hx⟩
    simp only [↓q_exit, ↓q_cond, ↓q_nil, q_putT, q_evt, q_mapsome, if_true, if_false, Nat.reduceEqDiff, Bool.false_eq_true, eq_self, ↓z_seq, ↓z_snrm, ↓z_sexit, ↓z_some, List.getElem?_cons_zero]
    refine hQ _ _ hh out l I.pres I.own (fun n => ?_) (by have := I.len; omega)
    rw [← M.has n, ← I.has n, hnil]
    exact ⟨.inl, fun h => h.elim id fun ⟨e, he, _⟩ => by cases he⟩
  | succ n ih =>
    intro seen out l a6 tl hh hn I
    rw [show k + (n + 1) + 40 = (k + n + 40) + 1 from by omega]
    refine loop_code ?_
    generalize hK : (fun (x : X) (st' : St) => (match x with | .nrm => (sems E (k + n + 40)).code cx (.loop mrB) st' Q | x => Q x st' : Prop)) = K
    simp only [mrB, fn6, ↓q_region, ↓z_seq]
    refine run_step ?_
    unfold stepOp
    simp only [q_putT, q_evl, q_evt, evOp, List.getD_cons_zero, List.getD_cons_succ, if_true, true_and, eq_self, ↓z_extract, I.iter, I.src, hborn]
    refine ⟨fun hnil => (by rw [hnil] at hn; cases hn), fun x hx => ?_⟩
    have hxe := leftOf_mem hx
    obtain ⟨q, hq⟩ := M.keys x hxe
    obtain ⟨ap1, ap2, ap3, ap4⟩ := I.apart
    have itlt : it < hh.next := wf_lt I.pres.wf I.iter
    have mblt : mb < hh.next := wf_lt I.pres.wf I.src
    have p1 : Pres h0 (hh.set it (.miter (some mb) cl (seen ++ [x.2.2]) cl)) := I.pres.set ap3 itlt _
    have g1 : (hh.set it (.miter (some mb) cl (seen ++ [x.2.2]) cl)).get it = some (.miter (some mb) cl (seen ++ [x.2.2]) cl) := by rw [H.get_set, if_pos rfl]
    have g2 : (hh.set it (.miter (some mb) cl (seen ++ [x.2.2]) cl)).get mb = some (.map es cl) := by rw [H.get_set, if_neg ap1]; exact I.src
    have gne : ∀ b, b ≠ it → (hh.set it (.miter (some mb) cl (seen ++ [x.2.2]) cl)).get b = hh.get b := fun b hb => by rw [H.get_set, if_neg hb]
    have hn1 : (hh.set it (.miter (some mb) cl (seen ++ [x.2.2]) cl)).next = hh.next := rfl
    have hent : evEntry (.ptr it 0) (hh.set it (.miter (some mb) cl (seen ++ [x.2.2]) cl)) = some (.tup [x.1, x.2.1], hh.set it (.miter (some mb) cl (seen ++ [x.2.2]) cl)) := by
      unfold evEntry
      simp only [g1, g2, List.getLast?_append, List.getLast?_singleton]
      rw [show (some x.2.2).or seen.getLast? = some x.2.2 from rfl]
      simp only [ne_eq, not_true_eq_false, if_false]
      rw [find_stamp M.stamps hxe]
    generalize hh.set it (.miter (some mb) cl (seen ++ [x.2.2]) cl) = h1 at *
    have hper := leftOf_perm M.stamps hx
    have hlen : (leftOf es (seen ++ [x.2.2])).length = n := by
      have := hper.length_eq; rw [hn, List.length_cons] at this; omega
    have hle : l.length + 1 ≤ es.length := by have := I.len; omega
    have hroom2 : roomOK (l.length + 1) 8 = true := by simp only [roomOK, decide_eq_true_eq]; omega
    have ap : ∃ h2, appendV 1 8 out 1 [.int .i64 q] (h1.push (.cells [.int .i64 q])) = some (.sl (h1.next + 1) 0 (l.length + 1) (.u 1), h2) ∧ RM h0 mb it es cl (seen ++ [x.2.2]) (.sl (h1.next + 1) 0 (l.length + 1) (.u 1)) (l ++ [q]) h2 := by
      have pq : Pres h0 (h1.push (.cells [.int .i64 q])) := p1.trans (Pres.push p1.wf _)
      have hall : [V.int .i64 q].all V.cellOK = true := rfl
      have lenx : (l ++ [q]).length + (leftOf es (seen ++ [x.2.2])).length = es.length := by
        have := I.len; rw [List.length_append, List.length_singleton, hlen]; omega
      have hasx : ∀ n, (n ∈ l ++ [q] ∨ ∃ e ∈ leftOf es (seen ++ [x.2.2]), e.1 = .int .i64 n) ↔ ∃ e ∈ es, e.1 = .int .i64 n := by
        intro n
        rw [← I.has n]
        constructor
        · rintro (h | ⟨e, he, h⟩)
          · rcases List.mem_append.1 h with h | h
            · exact .inl h
            · rw [List.mem_singleton.1 h]; exact .inr ⟨x, hx, hq⟩
          · exact .inr ⟨e, hper.mem_iff.2 (List.mem_cons_of_mem _ he), h⟩
        · rintro (h | ⟨e, he, h⟩)
          · exact .inl (List.mem_append_left _ h)
          · rcases List.mem_cons.1 (hper.mem_iff.1 he) with rfl | he
            · rw [hq] at h; injection h with _ h
              exact .inl (List.mem_append_right _ (List.mem_singleton.2 h.symm))
            · exact .inr ⟨e, he, h⟩
      have low : h0.next ≤ h1.next := p1.next
      rcases I.own with ⟨rfl, rfl⟩ | ⟨B, rfl, b1, b2, b3⟩
      · have pz := pq.trans (Pres.push pq.wf (.cells [.int .i64 q]))
        refine ⟨_, app_nils (by omega) hall hroom2, pz, ?_, ?_, lenx, hasx, .inr ⟨h1.next + 1, rfl, by omega, ?_, ?_⟩, ap1, ap2, ap3, ?_⟩
        · rw [H.get_push, if_neg (show ¬ it = (h1.push _).next from by show ¬ it = h1.next + 1; omega), H.get_push, if_neg (by omega)]; exact g1
        · rw [H.get_push, if_neg (show ¬ mb = (h1.push _).next from by show ¬ mb = h1.next + 1; omega), H.get_push, if_neg (by omega)]; exact g2
        · show h1.next + 1 < h1.next + 1 + 1; omega
        · rw [H.get_push, if_pos (show h1.next + 1 = (h1.push _).next from rfl)]; rfl
        · intro b o n c e; injection e with e; omega
      · have hBne := ap4 _ _ _ _ rfl
        have gB : (h1.push (.cells [.int .i64 q])).get B = some (.cells (l.map (.int .i64))) := by
          rw [H.get_push, if_neg (by omega), gne B hBne.2]; exact b3
        have rB : (h1.push (.cells [.int .i64 q])).rd B 0 (l.length * 1) = some (l.map (.int .i64)) :=
          (rd_of gB (by rw [List.length_map]; omega)).trans (by rw [List.drop_zero, List.take_of_length_le (by rw [List.length_map]; omega)])
        have pd : Pres h0 ((h1.push (.cells [.int .i64 q])).set B .dead) := pq.set b1 (by show B < h1.next + 1; omega) _
        have pz := pd.trans (Pres.push pd.wf (.cells (l.map (.int .i64) ++ [.int .i64 q])))
        refine ⟨_, app_u (by omega) hall hroom2 rB gB, pz, ?_, ?_, lenx, hasx, .inr ⟨h1.next + 1, by rw [List.length_append]; rfl, by omega, ?_, ?_⟩, ap1, ap2, ap3, ?_⟩
        · rw [H.get_push, if_neg (show ¬ it = ((h1.push _).set B _).next from by show ¬ it = h1.next + 1; omega), H.get_set, if_neg (Ne.symm hBne.2), H.get_push, if_neg (by omega)]; exact g1
        · rw [H.get_push, if_neg (show ¬ mb = ((h1.push _).set B _).next from by show ¬ mb = h1.next + 1; omega), H.get_set, if_neg (Ne.symm hBne.1), H.get_push, if_neg (by omega)]; exact g2
        · show h1.next + 1 < h1.next + 1 + 1; omega
        · rw [H.get_push, if_pos (show h1.next + 1 = ((h1.push _).set B _).next from rfl), List.map_append]; rfl
        · intro b o n c e; injection e with e; omega
    obtain ⟨h2, ap1', I2⟩ := ap
    have rs : (h1.push (.cells [.int .i64 q])).rd h1.next 0 1 = some [.int .i64 q] := rd_of (c := [.int .i64 q]) (by rw [H.get_push, if_pos rfl]) (by show 0 + 1 ≤ 1; omega)
    simp only [↓q_region, ↓q_skip, ↓q_cond, ↓q_nil, q_putL, q_putT, q_evl, q_evt, q_mapsome, evOp, List.getD_cons_zero, List.getD_cons_succ, List.set_cons_zero, List.set_cons_succ, if_true, if_false, Nat.reduceEqDiff, List.length_cons, List.length_nil, List.take_zero, List.drop_succ_cons, List.nil_append, List.append_nil, Nat.reduceMul, Nat.zero_add, and_self, Nat.le_refl, fill, p_int, eq_self, ↓z_seq, ↓z_block, ↓z_snrm, ↓z_bnrm, ↓z_some, ↓z_mv, ↓z_bslice, ↓z_extract, ↓z_append, ↓z_entry, List.getElem?_cons_zero, hent, hq, reps, List.drop_nil, srcOf, rs, ap1']
    rw [← hK]
    exact ih _ _ _ _ _ _ hlen I2
end Go.Abs.Sy

namespace Go.Abs.Sy
open Go.Abs

variable {E : Env}

def intsOf : List V → Option (List Int)
  | [] => some []
  | .int .i64 n :: r => (intsOf r).map (n :: ·)
  | _ => none
theorem intsOf_map (l : List Int) : intsOf (l.map (.int .i64)) = some l := by
  induction l with
  | nil => rfl
  | cons a l ih => rw [List.map_cons]; unfold intsOf; rw [ih]; rfl
theorem intsOf_eq : ∀ {c : List V} {l : List Int}, intsOf c = some l → c = l.map (.int .i64) := by
  intro c
  induction c with
  | nil => intro l h; unfold intsOf at h; cases h; rfl
  | cons a c ih =>
    intro l h
    unfold intsOf at h
    split at h
    · rename_i e; cases e
    · rename_i n r e
      injection e with e1 e2
      subst e1 e2
      cases hr : intsOf c with
      | none => rw [hr] at h; cases h
      | some l' => rw [hr] at h; cases h; rw [ih hr]; rfl
    · cases h

/-- slices.Sort of numbers -/
def xSort : List V → H → Option (Ret × H)
  | [.nils], h => some (.ret (.tup []), h)
  | [.sl b o n _], h => match (h.rd b o n).bind intsOf with
    | some zs => if zs.length < 4000000000000 then (h.wr b o ((zs.mergeSort fun x y => decide (x ≤ y)).map (.int .i64))).map fun h' => (.ret (.tup []), h') else none
    | none => none
  | _, _ => none

theorem xSort_own {lo : Nat} {h : H} {v : V} {l : List Int} (I : IntO lo h v l) (hl : l.length ≤ 3000000000000) {h0 : H} (p : Pres h0 h) (hlo : h0.next ≤ lo) : ∃ h' l', xSort [v] h = some (.ret (.tup []), h') ∧ Pres h0 h' ∧ h'.next = h.next ∧ IntO lo h' v l' ∧ l'.length = l.length ∧ ∀ n, n ∈ l' ↔ n ∈ l := by
  rcases I with ⟨rfl, rfl⟩ | ⟨b, rfl, h1, h2, h3⟩
  · exact ⟨h, [], rfl, p, rfl, .inl ⟨rfl, rfl⟩, rfl, fun n => Iff.rfl⟩
  · have hs : (l.mergeSort fun x y => decide (x ≤ y)).length = l.length := List.length_mergeSort l
    have rd : h.rd b 0 l.length = some (l.map (.int .i64)) := (rd_of h3 (by rw [List.length_map]; omega)).trans (by rw [List.drop_zero, List.take_of_length_le (by rw [List.length_map]; omega)])
    have wr : h.wr b 0 ((l.mergeSort fun x y => decide (x ≤ y)).map (.int .i64)) = some (h.set b (.cells ((l.mergeSort fun x y => decide (x ≤ y)).map (.int .i64)))) := by
      rw [wr_of h3 (by rw [List.length_map, List.length_map, hs]; omega), List.take_zero, List.nil_append, List.drop_of_length_le (by rw [List.length_map, List.length_map, hs]; omega), List.append_nil]
    refine ⟨_, l.mergeSort fun x y => decide (x ≤ y), ?_, p.set (by omega) h2 _, rfl, .inr ⟨b, by rw [hs], h1, h2, by rw [H.get_set, if_pos rfl]⟩, hs, fun n => List.mem_mergeSort⟩
    unfold xSort
    simp only [rd, Option.bind_some, intsOf_map, wr, Option.map_some]
    rw [if_pos (by omega)]

theorem FsR.lenAny {h : H} {v : V} {g : List Row} (r : FsR h v g) (hh : H) : lenV hh v = some g.length := by
  rcases r.1 with ⟨rfl, rfl⟩ | ⟨b, o, cap, rfl, _⟩ <;> rfl

def ofX (x : List V → H → Option (Ret × H)) : List V → H → (Ret → H → Prop) → Prop := fun args h R => ∃ r h', x args h = some (r, h') ∧ R r h'

/-- the environment of the law -/
structure Env1 (E : Env) : Prop extends Env0 E where
  sort : E.ext 17 = some (ofX xSort)
  awake : E.ext 4 = some (ofX mAwake.run)

theorem callF_ext {S : Sems} {f : FuncId} {x : List V → H → Option (Ret × H)} {args : List V} {h : H} {R : Ret → H → Prop} (e : E.ext f = some (ofX x)) {r : Ret} {h' : H} (hx : x args h = some (r, h')) (hR : R r h') : callF E S f args h R := by
  unfold callF; rw [e]; exact ⟨r, h', hx, hR⟩

def tot (g : List Row) : Nat := (g.flatMap valsOf).length + g.length

theorem uses6 (hE1 : Env1 E) {h : H} (w : WF h) {v : V} {g : List Row} (fs : FsR h v g) (hf : fits20 g) (ht : tot g ≤ 3000000000000) {m : Nat} (hm : ∀ r ∈ g, r.1.vars.length ≤ m ∧ r.1.stack.length ≤ m) {R : Ret → H → Prop}
    (hR : ∀ v' l h', Pres h h' → IntO h.next h' v' l → l.length ≤ tot g → (∀ n, n ∈ l ↔ Occ (g.flatMap valsOf) n ∨ OccA g n) → R (.ret v') h') (k : Nat) : callF E (sems E (k + m + tot g + 200)) 6 [v] h R := by
  have hE := hE1.toEnv0
  have htl : g.length ≤ tot g := Nat.le_add_left _ _
  have ht2 : (g.flatMap valsOf).length + g.length ≤ 3000000000000 := ht
  have ht3 : (g.flatMap valsOf).length + g.length = tot g := rfl
  rw [show k + m + tot g + 200 = (k + m + tot g + 199) + 1 from by omega]
  refine call_in hE.mono (hE.none 6 (by decide)) (by rw [hE.ft]; rfl) rfl rfl ?_
  show (sems E (k + m + tot g + 199)).code _ fn6.body ⟨[v, .tup [], .tup [], .tup [], .tup [], .tup [], .tup [], .tup [], .tup [], .tup [], .tup [], .tup []], [], [], h⟩ (EndQ [.loc 1] R)
  have hbd : fn6.body = (.seq (.region [⟨.l 1, .mv (.c (.nils)), none, 0⟩])
   (.seq (.region [⟨.t 10, .mkMap none, none, 0⟩, ⟨.l 2, .alloc [.nilm], none, 0⟩, ⟨.n, .store 1 (.l 2) (.t 10), none, 0⟩])
   (.seq (.seq (.region [⟨.t 11, .mv (.l 0), none, 0⟩, ⟨.t 12, .call (.f 16) [.t 11], none, 0⟩, ⟨.t 13, .call (.f 15) [.t 12], none, 0⟩])
   (.block 0 (.rfun (.t 13) [.t 14, .l 7] upA upB)))
   (.seq (.seq (.region [⟨.l 8, .mv (.l 0), none, 0⟩, ⟨.l 9, .len (.sl) (.l 8), none, 0⟩, ⟨.l 10, .mv (.c (.int (.i64) 0)), none, 0⟩])
   (.block 2 (.loop acB)))
   (.seq (.region [⟨.l 5, .mv (.c (.nils)), none, 0⟩])
   (.seq (.seq (.region [⟨.t 40, .load false 1 (.l 2), none, 0⟩, ⟨.l 11, .rngMap (.t 40), none, 0⟩])
   (.block 4 (.loop mrB)))
   (.seq (.region [⟨.t 50, .mv (.l 5), none, 0⟩, ⟨.t 51, .call (.f 17) [.t 50], none, 0⟩])
   (.seq (.region [⟨.t 52, .mv (.l 5), none, 0⟩, ⟨.l 1, .mv (.t 52), none, 0⟩])
   .ret)))))))) := rfl
  rw [hbd]
  have hw1 := push_wr (h := h.push (.map [] 0)) (c := [.nilm]) (vs := [.map h.next]) rfl
  have nx1 : (h.push (.map [] 0)).next = h.next + 1 := rfl
  rw [nx1] at hw1
  have cm : (V.map h.next).cellOK = true := rfl
  simp only [↓q_region, ↓q_nil, q_putL, q_putT, q_putN, q_evl, q_evt, q_evc, q_evf, q_mapsome, evOp, List.getD_cons_zero, List.getD_cons_succ, List.set_cons_zero, List.set_cons_succ, if_true, if_false, Nat.reduceEqDiff, List.map_cons, List.map_nil, List.length_cons, List.length_nil, List.nil_append, List.append_nil, Nat.zero_add, and_self, List.all_cons, List.all_nil, Bool.and_self, p_map, eq_self, H.next_push, ↓z_seq, ↓z_block, ↓z_snrm, ↓z_span, ↓z_some, ↓z_call, ↓z_mv, ↓z_alloc, ↓z_store, ↓z_mkMap, callV, cm, hw1]
  have p1 : Pres h (((h.push (.map [] 0)).push (.cells [.nilm])).set (h.next + 1) (.cells [.map h.next])) := ((Pres.push w _).trans (Pres.push (Pres.push w _).wf _)).set (by omega) (by show h.next + 1 < h.next + 1 + 1; omega) _
  have n1 : (((h.push (.map [] 0)).push (.cells [.nilm])).set (h.next + 1) (.cells [.map h.next])).next = h.next + 2 := rfl
  have gm : (((h.push (.map [] 0)).push (.cells [.nilm])).set (h.next + 1) (.cells [.map h.next])).get h.next = some (.map [] 0) := by
    rw [H.get_set, if_neg (by omega), H.get_push, if_neg (show ¬ h.next = (h.push _).next from Nat.ne_of_lt (Nat.lt_succ_self _)), H.get_push, if_pos rfl]
  have gb : (((h.push (.map [] 0)).push (.cells [.nilm])).set (h.next + 1) (.cells [.map h.next])).rd (h.next + 1) 0 1 = some [.map h.next] :=
    (rd_of (c := [.map h.next]) (by rw [H.get_set, if_pos rfl]) (Nat.le_of_ble_eq_true rfl)).trans rfl
  generalize ((h.push (.map [] 0)).push (.cells [.nilm])).set (h.next + 1) (.cells [.map h.next]) = h1 at *
  refine callF_le hE.mono (sems_le hE.mono (0 + g.length + 70) _ (by omega)) (fun _ _ x => x) (copied16 hE p1.wf (fs.pres w p1) hf ?_ 0)
  intro v' g' h2 p2 o2 hg'
  have cv : v'.cellOK = true := by rcases o2.2 with ⟨rfl, _⟩ | ⟨B, rfl, _⟩ <;> rfl
  simp only []
  refine callF_le hE.mono (sems_le hE.mono (10 + 1) _ (by omega)) (fun _ _ x => x) ?_
  refine call_in hE.mono (hE.none 15 (by decide)) (by rw [hE.ft]; rfl) rfl rfl ?_
  show (sems E 10).code _ fn15.body ⟨[v', .tup [], .tup []], [], [], h2⟩ _
  simp only [fn15, ↓q_region, ↓q_ret, ↓q_nil, q_putL, q_putT, q_evl, q_evt, q_evc, q_mapsome, evOp, List.getD_cons_zero, List.getD_cons_succ, List.set_cons_zero, List.set_cons_succ, if_true, List.map_cons, List.map_nil, eq_self, ↓z_seq, ↓z_snrm, ↓z_some, ↓z_mv, ↓z_box, ↓z_mkFn, p_ok cv]
  refine ⟨rfl, .fn (.func 35) [] [.ptr h2.next 0], rfl, ?_⟩
  simp only []
  rw [show k + m + tot g + 194 = (k + m + tot g + 193) + 1 from by omega]
  refine q_rfun trivial rfl ?_ hE.mono
  simp only [↓q_region, q_putL, q_evl, q_evt, evOp, List.getD_cons_zero, List.getD_cons_succ, List.set_cons_zero, List.set_cons_succ, if_true, if_false, Nat.reduceEqDiff, List.cons_append, List.nil_append, eq_self, H.next_push, ↓z_seq, ↓z_snrm, ↓z_bnrm, ↓z_some, ↓z_mv, ↓z_len, callV]
  have hlen : g'.length = g.length := by have := congrArg List.length hg'; rw [List.length_map, List.length_map] at this; exact this
  have hfr : ∀ r ∈ g', ∃ r0 ∈ g, r0.1 = r.1 := by
    intro r hr
    have : r.1 ∈ g'.map (·.1) := List.mem_map.2 ⟨r, hr, rfl⟩
    rw [hg'] at this
    obtain ⟨r0, h0, e⟩ := List.mem_map.1 this
    exact ⟨r0, h0, e⟩
  have hvals : g'.flatMap valsOf = g.flatMap valsOf := by
    have e : ∀ x : List Row, x.flatMap valsOf = (x.map (·.1)).flatMap fun f => f.self :: f.hold :: (f.vars ++ f.stack) := fun x => by rw [List.flatMap_map]; rfl
    rw [e, e, hg']
  have hf' : fits20 g' := ⟨by rw [hlen]; exact hf.1, fun r hr => by obtain ⟨r0, h0, e⟩ := hfr r hr; rw [← e]; exact hf.2 r0 h0⟩
  have hm' : ∀ r ∈ g', r.1.vars.length ≤ m ∧ r.1.stack.length ≤ m := fun r hr => by obtain ⟨r0, h0, e⟩ := hfr r hr; rw [← e]; exact hm r0 h0
  have hbB : ∀ B o n c, v' = .sl B o n c → B < h2.next := by
    intro B o n c e
    rcases o2.2 with ⟨e2, _⟩ | ⟨B', e2, _, hlt, _⟩
    · rw [e2] at e; cases e
    · rw [e2] at e; injection e with e; omega
  have M : Iter (fun s => s) h1.next v' h2.next (.fn (.yield (h2.next + 1)) [] []) 20 E (UI h h1.next v' h2.next (h2.next + 1) (h.next + 1) h.next [v, .nils, .ptr (h.next + 1) 0, .tup [], .tup [], .tup [], .tup [], .tup [], .tup [], .tup [], .tup [], .tup []]) := by
    refine ⟨fun g seen h I => ⟨I.out, I.bx⟩, ?_⟩
    intro A C f f' vv sv seen hh c o s hI sp k' hk
    obtain ⟨k2, rfl⟩ := Nat.exists_eq_add_of_le hk
    rw [Nat.add_comm 20 k2]
    exact us_round hE.mono hI sp k2
  have p3 : Pres h2 ((h2.push (.cells [v'])).push (.loop .ready none 6 [v, .nils, .ptr (h.next + 1) 0, .tup [], .tup [], .tup [], .tup [], .tup [], .tup [], .tup [], .tup [], .tup []] [.t 14, .l 7] upA upB)) := (Pres.push p2.wf _).trans (Pres.push (Pres.push p2.wf _).wf _)
  have hI : UI h h1.next v' h2.next (h2.next + 1) (h.next + 1) h.next [v, .nils, .ptr (h.next + 1) 0, .tup [], .tup [], .tup [], .tup [], .tup [], .tup [], .tup [], .tup [], .tup []] g' [] ((h2.push (.cells [v'])).push (.loop .ready none 6 [v, .nils, .ptr (h.next + 1) 0, .tup [], .tup [], .tup [], .tup [], .tup [], .tup [], .tup [], .tup [], .tup []] [.t 14, .l 7] upA upB)) := by
    refine ⟨o2.pres p2.wf p3, ?_, (p1.trans p2).trans p3, ?_, rd_pres p1.wf (p2.trans p3) gb, ⟨[], 0, ?_, MapI.empty.cong fun n => ?_, Nat.le_refl _⟩, ⟨by omega, by omega, by omega, Nat.le_refl _, p2.next, by omega, ?_, fun c hc => (o2.1.blk c hc).2, hbB⟩⟩
    · exact (rd_of (c := [v']) (by rw [H.get_push, if_neg (show ¬ h2.next = (h2.push (.cells [v'])).next from Nat.ne_of_lt (Nat.lt_succ_self _)), H.get_push, if_pos rfl]) (Nat.le_of_ble_eq_true rfl)).trans rfl
    · rw [H.get_push, if_pos (show h2.next + 1 = (h2.push (.cells [v'])).next from rfl)]
    · rw [(p2.trans p3).same _ (by omega)]; exact gm
    · exact ⟨False.elim, fun ⟨s, hs, _⟩ => by cases hs⟩
    · show h2.next + 1 < h2.next + 1 + 1; omega
  refine callF_le hE.mono (sems_le hE.mono (0 + 20 + m + g'.length + 90) _ (by omega)) (fun _ _ x => x) (values35 hE M hf' hm' hI ?_ 0)
  intro h3 hI'
  refine ⟨⟨_, rfl⟩, _, _, _, _, _, _, hI'.lp, by decide, ?_⟩
  simp only [↓q_nil, q_putL, q_evc, q_mapsome, evOp, List.set_cons_zero, List.set_cons_succ, if_true, eq_self, ↓z_block, ↓z_snrm, ↓z_some, ↓z_mv, fs.lenAny, fs.len.2]
  obtain ⟨d1, d2, d3, d4, d5, d6, d7, d8, d9⟩ := hI'.bds
  have rdne : ∀ (hh : H) (x y q n : Nat) (oo : O), x ≠ y → (hh.set y oo).rd x q n = hh.rd x q n := fun hh x y q n oo hxy => by unfold H.rd; rw [H.get_set, if_neg hxy]
  have I0 : MB2 h (h.next + 1) h.next ((g.flatMap valsOf).length + 0) (fun n => Occ (g.flatMap valsOf) n ∨ OccA (g.take 0) n) (h3.set (h2.next + 1) (.loop .exhausted none 6 [v, .nils, .ptr (h.next + 1) 0, .tup [], .tup [], .tup [], .tup [], .tup [], .tup [], .tup [], .tup [], .tup []] [.t 14, .l 7] upA upB)) := by
    obtain ⟨es, cl, g1, M1, l1⟩ := hI'.mp
    rw [hvals] at M1 l1
    refine ⟨hI'.pres.set (by omega) d7 _, (rdne _ _ _ _ _ _ (by omega)).trans hI'.r2, ⟨es, cl, by rw [H.get_set, if_neg (by omega)]; exact g1, M1.cong fun n => ?_, l1⟩, d3, d4⟩
    rw [List.take_zero]
    exact ⟨.inl, fun h => h.elim id fun ⟨r, hr, _⟩ => by cases hr⟩
  generalize h3.set (h2.next + 1) (.loop .exhausted none 6 [v, .nils, .ptr (h.next + 1) 0, .tup [], .tup [], .tup [], .tup [], .tup [], .tup [], .tup [], .tup [], .tup []] [.t 14, .l 7] upA upB) = h4 at *
  refine (sems_le hE.mono (0 + g.length + 40) _ (by omega)).code _ _ _ _ _ (fun _ _ x => x) (actLoop hE w fs hf ?_ 0 g.length 0 _ _ h4 (by omega) I0)
  intro a4 tl h5 I5
  obtain ⟨es, cl, g5, M5, l5⟩ := I5.mp
  simp only [↓q_region, ↓q_nil, q_putL, q_putT, q_evl, q_evt, q_evc, q_mapsome, evOp, List.getD_cons_zero, List.getD_cons_succ, List.set_cons_zero, List.set_cons_succ, if_true, if_false, Bool.false_eq_true, eq_self, ↓z_seq, ↓z_block, ↓z_snrm, ↓z_sexit, ↓z_bexit, ↓z_some, ↓z_mv, ↓z_load, ↓z_rngMap, I5.r2, g5]
  have p6 : Pres h5 (h5.push (.miter (some h.next) cl [] cl)) := Pres.push I5.pres.wf _
  have m5 := I5.mlt
  have I6 : RM h h.next h5.next es cl [] .nils [] (h5.push (.miter (some h.next) cl [] cl)) := by
    refine ⟨I5.pres.trans p6, by rw [H.get_push, if_pos rfl], by rw [H.get_push, if_neg (by omega)]; exact g5, by rw [leftOf_nil]; exact Nat.zero_add _, fun n => ?_, .inl ⟨rfl, rfl⟩, by omega, Nat.le_refl _, I5.pres.next, fun b o n c e => by cases e⟩
    rw [leftOf_nil]
    exact ⟨fun h => h.elim (fun q => by cases q) id, .inr⟩
  refine (sems_le hE.mono (0 + (leftOf es []).length + 40) _ (by rw [leftOf_nil]; omega)).code _ _ _ _ _ (fun _ _ x => x) (mapLoop hE M5 (by omega) ?_ 0 _ [] .nils [] _ _ _ rfl I6)
  intro a6 tl6 h7 out l p7 own hmem hll
  obtain ⟨h8, l8, x8, p8, n8, o8, e8, hm8⟩ := xSort_own own (by omega) p7 (Nat.le_refl _)
  simp only [↓q_region, ↓q_ret, ↓q_nil, q_putL, q_putT, q_evl, q_evt, q_evf, evOp, List.getD_cons_zero, List.getD_cons_succ, List.set_cons_zero, List.set_cons_succ, if_true, List.map_cons, List.map_nil, List.nil_append, List.append_nil, eq_self, ↓z_seq, ↓z_snrm, ↓z_sexit, ↓z_span, ↓z_bexit, ↓z_some, ↓z_call, ↓z_mv, callV]
  refine callF_ext hE1.sort x8 ?_
  simp only []
  refine ⟨rfl, out, rfl, hR out l8 h8 p8 o8 (by omega) fun n => (hm8 n).trans (hmem n)⟩
end Go.Abs.Sy
