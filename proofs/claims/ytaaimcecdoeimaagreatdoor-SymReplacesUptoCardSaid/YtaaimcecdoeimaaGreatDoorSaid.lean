/-
  SymReplaces: whatever the input, up to the bulk: the law returns true, and the input reads as it did.
-/
import Derived.Test.YtaaimcecdoeimaaGreatDoorCards
import Derived.Test.YtaaimcecdoeimaaGreatDoorTie
import Derived.WalkKit
import Derived.ProofKit
import Derived.OpenShut
import Derived.Deep.DeepHandedRow
import Derived.Deep.DeepWitnessRowRef
import Derived.WideKeyArgs
import Derived.Test.YtaaimcecdoeimaaGreatDoorLawOk
import Derived.Test.YtaaimcecdoeimaaGreatDoorFactA
import Derived.Test.YtaaimcecdoeimaaGreatDoorRead
namespace Go.Proofs.YtaaimcecdoeimaaGreatDoor
open Go.ChangeShapes Go.WideShapes Go.ChangeAt Go.RowKit
open Go.Abs Go.Abs.Sy

theorem own : ownKnob Tryz.prog.godebug = none := by kernel_rfl

theorem types_size : Tryz.prog.types.size = 507 := by kernel_rfl
theorem globals_size : Tryz.prog.globals.size = 8 := by kernel_rfl
theorem read22 : Tryz.prog.readableRec 22 = true := by kernel_rfl
theorem read26 : Tryz.prog.readableRec 26 = true := by kernel_rfl
theorem read3 : Tryz.prog.readableRec 3 = true := by kernel_rfl

theorem tys : Tys Tryz.prog 3 9 24 26 32 34 22 where
  int := Tryz.underlying3
  str := Tryz.underlying9
  val := ⟨_, _, _, Tryz.underlying24, rfl, rfl, rfl⟩
  sval := ⟨_, _, _, _, Tryz.underlying26, rfl, rfl, rfl, rfl⟩
  svals := Tryz.underlying32
  frame := ⟨_, _, _, _, _, _, _, _, Tryz.underlying34, rfl, rfl, rfl, rfl, rfl, rfl, rfl, rfl⟩
  frames := Tryz.underlying22
  cI := by kernel_rfl
  cS := by kernel_rfl
  cT := by kernel_rfl
  cV := by kernel_rfl
  cL := by kernel_rfl
  cF := by kernel_rfl
  cA := by kernel_rfl

/-! ### sizes -/
theorem one_le {H : Type} (d : DataW H) : 1 ≤ Rows.uptoBulk d := by
  cases d with
  | lit l => cases l <;> simp [Rows.uptoBulk]
  | _ => simp [Rows.uptoBulk]
theorem length_le {H : Type} : ∀ (l : List (DataW H)), l.length ≤ Rows.uptoBulkAll l
  | [] => Nat.zero_le _
  | d :: l => by have h1 := one_le d; have h2 := length_le l; simp only [Rows.uptoBulkAll, List.length_cons]; omega
theorem bulk_len {H : Type} {d : DataW H} {n : Nat} (h : LenOf d n) : n + 1 ≤ Rows.uptoBulk d := by
  rcases h with ⟨rfl, rfl⟩ | ⟨el, sp, rfl, rfl⟩
  · exact one_le _
  · have := length_le el
    simp only [Rows.uptoBulk]; omega
theorem bulk_row {H : Type} {d : DataW H} {r : Row} (h : FrD d r) : r.1.vars.length + r.1.stack.length + 9 ≤ Rows.uptoBulk d := by
  obtain ⟨d0, d1, d2, d3, dv, ds, d6, d7, rfl, h1, h2⟩ := h
  have := one_le d0; have := one_le d1; have := one_le d2; have := one_le d3; have := one_le d6; have := one_le d7
  have := bulk_len h1; have := bulk_len h2
  simp only [Rows.uptoBulk, Rows.uptoBulkAll]
  omega
theorem bulk_rows {H : Type} : ∀ (g : List Row) (el : List (DataW H)), el.length = g.length → (∀ (i : Nat) (r : Row) (d : DataW H), g[i]? = some r → el[i]? = some d → FrD d r) →
    tot g ≤ Rows.uptoBulkAll el ∧ g.length ≤ Rows.uptoBulkAll el ∧ ∀ r ∈ g, r.1.vars.length ≤ Rows.uptoBulkAll el ∧ r.1.stack.length ≤ Rows.uptoBulkAll el
  | [], _, _, _ => ⟨Nat.zero_le _, Nat.zero_le _, fun r h => by cases h⟩
  | _ :: _, [], h, _ => by cases h
  | r :: g, d :: el, hl, hp => by
    obtain ⟨h1, h2, h3⟩ := bulk_rows g el (by simpa using hl) (fun i q e a b => hp (i + 1) q e a b)
    have h4 := bulk_row (hp 0 r d rfl rfl)
    have h5 : (valsOf r).length = r.1.vars.length + r.1.stack.length + 2 := by unfold valsOf; simp
    unfold tot at h1 ⊢
    rw [List.flatMap_cons, List.length_append, List.length_cons]
    simp only [Rows.uptoBulkAll]
    refine ⟨by omega, by omega, ?_⟩
    intro q hq
    rcases List.mem_cons.1 hq with rfl | hq
    · omega
    · have := h3 q hq; omega

/-! ### the world -/
theorem globals_cells {W : World} (h : W.ShapedOpen Tryz.prog) : 8 ≤ W.heap.size ∧ Cells0 W := by
  have hz : ∀ g, g < 8 → ((((begin Tryz.prog (fun _ _ => 0) default).world.heap[g]?).bind Obj.row?).isSome) = true := by
    have : ((List.range 8).all fun g => ((((begin Tryz.prog (fun _ _ => 0) default).world.heap[g]?).bind Obj.row?).isSome)) = true := by kernel_rfl
    intro g hg
    rw [List.all_eq_true] at this
    exact this g (List.mem_range.2 hg)
  have one : ∀ g, g < 8 → ∃ cs t, W.heap[g]? = some (.cells cs t (0, 0)) ∨ ∃ fr, W.heap[g]? = some (.cells cs t fr) := by
    intro g hg
    obtain ⟨x, hx⟩ := Option.isSome_iff_exists.1 (hz g hg)
    obtain ⟨cs, e, _⟩ := h.1 g x.1 x.2 (by rw [globals_size]; exact hg) hx
    exact ⟨cs, x.2, .inr ⟨_, e⟩⟩
  have hc : ∀ g, g < 8 → ∃ cs t fr, W.heap[g]? = some (.cells cs t fr) := by
    intro g hg
    obtain ⟨cs, t, e | ⟨fr, e⟩⟩ := one g hg
    · exact ⟨cs, t, _, e⟩
    · exact ⟨cs, t, fr, e⟩
  refine ⟨?_, hc 0 (by omega)⟩
  obtain ⟨_, _, _, e⟩ := hc 7 (by omega)
  exact (Array.getElem?_eq_some_iff.1 e).1

theorem same_at {W W' : World} (h : ∀ r, r < W.heap.size → W'.heap[r]? = W.heap[r]?) {p : MemPlace} (hp : p.block < W.heap.size) : W.sameAt W' p := by
  cases p with
  | cell b off =>
    show W'.cell? ⟨b, off, none⟩ = W.cell? ⟨b, off, none⟩
    unfold World.cell?
    dsimp only
    rw [h b hp]
  | map b => exact h b hp
theorem kept {W W' : World} (h : ∀ r, r < W.heap.size → W'.heap[r]? = W.heap[r]?) (ho : W'.os = W.os) (hu : W'.output = W.output) (may : MemPlace → Prop) : W.keptBut W' may := by
  refine ⟨ho, hu, fun i hi => ?_⟩
  rw [h i hi]
  cases hx : W.heap[i]? with
  | none => rfl
  | some o =>
    cases o with
    | cells c t fr => exact ⟨rfl, rfl, rfl, fun _ _ => rfl⟩
    | map es cl => exact .inr ⟨rfl, rfl⟩
    | _ => rfl

set_option maxRecDepth 100000 in
theorem plain_cells {W : World} {base : Nat} {t e : TypeId} {v : Value} (ht : Tryz.prog.underlying t = some (.slice e)) (h : Value.okWide Tryz.prog W .any base t v) : v.cells.toList = [v] := by
  have : ∀ cs, v ≠ .agg cs := by
    rintro cs rfl
    simp [Value.okWide, ht, Cell.okWide, Cell.ok] at h
  cases v <;> first | rfl | exact absurd rfl (this _)

theorem svc_vrs {m : Mp} (s : SV) : VRs m s.cells (svC s) := by
  unfold SV.cells svC
  refine VRs.cons ?_ (VRs.cons ?_ (VRs.cons ?_ (VRs.cons ?_ (VRs.cons ?_ (VRs.cons ?_ VRs.nil))))) <;> simp only [VR]
  exact ⟨_, rfl, rfl⟩

set_option maxRecDepth 100000 in
/-- what the call does, for each input of that bulk -/
theorem contract (H : Type) (enc : TypeId × Value → H) (W : World) (base : Nat) (args : Array Value) (ds gs : List (DataW H)) (before : List MemPlace)
    (hval : ∀ (j : Nat) t v, Tryz.f3.params[j]? = some t → args[j]? = some v → Value.okWide Tryz.prog W .any base t v)
    (hW : DataW.Whole enc Tryz.prog Tryz.f3.params.toList Rows.symReplacesSpec.vars false W args.toList ds gs before) (hk : Rows.uptoSmall H (ds ++ gs) = true) (hsh : W.ShapedOpen Tryz.prog) :
    Calls Tryz.prog 3 args W fun e W' => ∃ v, e = .returned v ∧ Rows.symReplacesSpec.post enc Tryz.prog Tryz.f3 false true false false W args v W' := by
  have hW' := hW
  obtain ⟨p, q, hA0, hV, rfl, hfz, hnd⟩ := hW
  have hA : DataW.TrodAll enc Tryz.prog W 0 (fun _ => true) true Tryz.f3.params.toList args.toList ds p := hA0
  rw [Tryz.params3] at hA hval
  obtain ⟨v0, vs0, d0, ds0, p0, q0, hargs, rfl, rfl, h0, r0⟩ := trodAll_cons hA
  obtain ⟨v1, vs1, d1, ds1, p1, q1, rfl, rfl, rfl, h1, r1⟩ := trodAll_cons r0
  obtain ⟨v2, vs2, d2, ds2, p2, q2, rfl, rfl, rfl, h2, r2⟩ := trodAll_cons r1
  obtain ⟨v3, vs3, d3, ds3, p3, q3, rfl, rfl, rfl, h3, r3⟩ := trodAll_cons r2
  obtain ⟨rfl, rfl, rfl⟩ := trodAll_nil r3
  obtain rfl : args = #[v0, v1, v2, v3] := Array.toList_inj.1 hargs
  obtain ⟨rfl, rfl⟩ := trodVars_none hV
  clear hA0 hA hV
  simp only [List.append_nil] at hW' hk
  obtain ⟨h8, hc0⟩ := globals_cells hsh
  -- the frames
  have k0 := plain_cells Tryz.underlying22 (hval 0 22 v0 rfl rfl)
  obtain ⟨u0, t0⟩ := id h0
  rw [k0] at t0
  obtain ⟨g, fs, hg⟩ := frames_of tys hc0 t0
  -- the values
  have val : ∀ {v : Value} {d : DataW H} {ps : List MemPlace}, Value.okWide Tryz.prog W .any base 26 v → DataW.Trod enc Tryz.prog W 0 (fun _ => true) true 26 v d ps → ∃ s : SV, v = .agg (svC s).toArray := by
    intro v d ps hv hd
    have hv2 := hv
    unfold Value.okWide at hv2
    rw [Tryz.underlying26] at hv2
    obtain ⟨cs, rfl, _⟩ := hv2
    obtain ⟨u, t⟩ := hd
    obtain ⟨s, hs⟩ := sval_of tys t
    have hs : cs.toList = svC s := hs
    exact ⟨s, by rw [← hs]⟩
  obtain ⟨s1, rfl⟩ := val (hval 1 26 _ rfl rfl) h1
  obtain ⟨s3, rfl⟩ := val (hval 3 26 _ rfl rfl) h3
  obtain ⟨n, rfl, _, _, _⟩ := open_int Tryz.underlying3 (hval 2 3 v2 rfl rfl) h2
  -- the bounds
  have hb : Rows.uptoBulkAll [d0, d1, d2, d3] ≤ 1048576 := of_decide_eq_true hk
  simp only [Rows.uptoBulkAll] at hb
  have hsz : tot g ≤ 1048576 ∧ fits20 g := by
    rcases hg with ⟨_, rfl⟩ | ⟨el, sp, e, h4, h5⟩
    · exact ⟨Nat.zero_le _, Nat.zero_le _, fun r h => by cases h⟩
    · have e : d0 = .slice el sp := e
      rw [e] at hb
      simp only [Rows.uptoBulk] at hb
      obtain ⟨b1, b2, b3⟩ := bulk_rows g el h4 h5
      exact ⟨by omega, by omega, fun r h => by have := b3 r h; omega⟩
  -- the call
  have hh : 0 < W.heap.size := by omega
  have sim := abs_sim (P := Tryz.prog) hh (by rw [globals_size]; exact h8)
  have hvr : VRs (absM W) [absV W.heap.size v0, .agg s1.cells, .int .i64 n, .agg s3.cells] (#[v0, .agg (svC s1).toArray, .int .i64 n, .agg (svC s3).toArray] : Array Value).toList := by
    refine VRs.cons (absV_vr hh v0) (VRs.cons ?_ (VRs.cons ?_ (VRs.cons ?_ VRs.nil))) <;> simp only [VR]
    · exact ⟨_, rfl, svc_vrs s1⟩
    · exact ⟨_, rfl, svc_vrs s3⟩
  refine (law_calls sim (absH_wf W) (by rw [absH_next]; exact h8) (absH_ro W) fs hsz.2 (Nat.le_trans hsz.1 (Nat.le_of_ble_eq_true rfl)) hvr).mono ?_
  rintro e W' ⟨rfl, hsize, hold, htape, hos, hout⟩
  have stays : ∀ {t : TypeId} {v : Value} {d : DataW H} {ps : List MemPlace}, Tryz.prog.readableRec t = true → t < 507 → DataW.Trod enc Tryz.prog W 0 (fun _ => true) true t v d ps → (∀ x ∈ ps, x.block < W.heap.size) →
      DataW.Trod enc Tryz.prog W' 0 (fun b => decide (b < W.heap.size)) true t v d ps := by
    intro t v d ps hr ht h hp
    exact WideElems.Trod_stays laidOut hr (by rw [types_size]; exact ht) h (fun x hx => same_at hold (hp x hx)) (fun x hx => by simpa using hp x hx)
  have hlt := hW'.lt
  refine ⟨_, rfl, [d0, d1, d2, d3], [], _, [], p0 ++ (p1 ++ (p2 ++ (p3 ++ []))), [], hW', ?_, ?_, ?_, kept hold hos hout _, fun h => by cases h⟩
  · exact trodAll_cons_mk (shut_bool Tryz.underlying4 _) trodAll_mk0
  · rw [Tryz.params3]
    exact trodAll_cons_mk (stays read22 (by decide) h0 fun x hx => hlt x (by simp [hx])) (trodAll_cons_mk (stays read26 (by decide) h1 fun x hx => hlt x (by simp [hx]))
      (trodAll_cons_mk (stays read3 (by decide) h2 fun x hx => hlt x (by simp [hx])) (trodAll_cons_mk (stays read26 (by decide) h3 fun x hx => hlt x (by simp [hx])) trodAll_mk0)))
  · exact rfl
end Go.Proofs.YtaaimcecdoeimaaGreatDoor
