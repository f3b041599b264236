/-
  slices.Sort of numbers: what it gives is true of the program.
-/
import Derived.Test.YtaaimcecdoeimaaGreatDoorLibOk
import Derived.Test.YtaaimcecdoeimaaGreatDoorLawD
import Derived.Test.YtaaimcecdoeimaaGreatDoorLawE
import Derived.Test.YtaaimcecdoeimaaGreatDoorAwakeOk
namespace Go.Abs.Sy
open Go.Proofs Go.Sort

/-- more memory, and nothing else: the relation stays -/
theorem sim_more {P : Program} {m : Mp} {g : G} {nx : Nat} {w w' : World} (s : Sim P m g nx w) (hs : w.heap.size ≤ w'.heap.size) (hb : ∀ r, r < w.heap.size → w'.heap[r]? = w.heap[r]?)
    (hr : w'.tape = w.tape ∧ w'.os = w.os ∧ w'.output = w.output) : Sim P m g nx w' ∧ Ex m g nx w m g nx w' := by
  refine ⟨⟨fun b' x e => ⟨(s.dom b' x e).1, Nat.lt_of_lt_of_le (s.dom b' x e).2 hs⟩, ?_, s.inj, s.glob, s.top⟩, ?_⟩
  · intro b' x o e k l
    obtain ⟨co, h1, h2⟩ := s.obj b' x o e k l
    exact ⟨co, by rw [hb _ (s.dom b' x e).2]; exact h1, h2⟩
  · exact ⟨Nat.le_refl _, hs, fun _ _ => rfl, fun b' x hb e => absurd (s.dom b' x e).1 (by omega), fun r hr _ => hb r hr, fun _ _ _ => rfl, fun _ _ l => l, fun _ x _ _ hs _ hg _ => ⟨hg, hb _ hs⟩, hr⟩

theorem vrs_ints {m : Mp} : ∀ {l : List Int} {r : List Value}, VRs m (l.map (.int .i64)) r → r = l.map (.int .i64)
  | [], _, h => by simp only [List.map_nil, VRs] at h; exact h
  | a :: l, _, h => by
    simp only [List.map_cons, VRs] at h
    obtain ⟨x, r', rfl, hx, hr⟩ := h
    simp only [VR] at hx
    rw [hx, vrs_ints hr]; rfl
theorem ints_vrs {m : Mp} : ∀ (l : List Int), VRs m (l.map (.int .i64)) (l.map (.int .i64))
  | [] => by simp only [List.map_nil, VRs]
  | a :: l => by
    simp only [List.map_cons]
    exact VRs.cons (by simp only [VR]) (ints_vrs l)

theorem putCells_list {d : Array Int} {off : Nat} {c : Array Value} (h : off + d.size ≤ c.size) : (putCells (Value.int .i64) off d c).toList = c.toList.take off ++ (d.toList.map (.int .i64) ++ c.toList.drop (off + d.size)) := by
  apply List.ext_getElem?
  intro k
  unfold putCells
  rw [Array.toList_mapIdx, List.getElem?_mapIdx]
  by_cases h1 : k < off
  · rw [List.getElem?_append_left (by rw [List.length_take, Array.length_toList]; omega), List.getElem?_take, if_pos h1]
    cases hc : c.toList[k]? with
    | none => rfl
    | some x => rw [Option.map_some, if_neg (by omega)]
  · have hk : k < off ∨ off ≤ k := by omega
    rw [List.getElem?_append_right (by rw [List.length_take, Array.length_toList]; omega)]
    have hl : (c.toList.take off).length = off := by rw [List.length_take, Array.length_toList]; omega
    rw [hl]
    by_cases h2 : k < off + d.size
    · rw [List.getElem?_append_left (by rw [List.length_map, Array.length_toList]; omega), List.getElem?_map]
      have hkc : k < c.toList.length := by rw [Array.length_toList]; omega
      have hkd : k - off < d.toList.length := by rw [Array.length_toList]; omega
      rw [List.getElem?_eq_getElem hkc, List.getElem?_eq_getElem hkd, Option.map_some, if_pos (by omega), Option.map_some]
      rw [getElem!_pos d (k - off) (by omega), Array.getElem_toList]
    · rw [List.getElem?_append_right (by rw [List.length_map, Array.length_toList]; omega), List.length_map, Array.length_toList, List.getElem?_drop]
      rw [show off + d.size + (k - off - d.size) = k from by omega]
      cases hc : c.toList[k]? with
      | none => rfl
      | some x => rw [Option.map_some, if_neg (by omega)]

theorem okSort : XOK Tryz.prog 17 xSort := by
  intro args h r h' hg R hR m w cargs s ha
  refine ⟨callable Tryz.func17 (by kernel_rfl) (by kernel_rfl), ?_⟩
  unfold xSort at hg
  split at hg
  · cases hg
    simp only [VRs] at ha
    obtain ⟨x, r', e1, hx, rfl⟩ := ha
    simp only [VR] at hx
    subst hx
    obtain rfl : cargs = #[.slice none 0 0] := Array.toList_inj.1 e1
    exact pure_post s (Tryz.slices_Sort_int_none none 0 w) (by simp only [VR, VRs]; exact ⟨#[], rfl, rfl⟩) hR
  · rename_i b o n cap
    split at hg
    · rename_i zs hz
      split at hg
      · rename_i hlt
        simp only [VRs] at ha
        obtain ⟨x, r', e1, hx, rfl⟩ := ha
        simp only [VR] at hx
        obtain ⟨ca, cp, rfl, hle, _, y, hy, hor⟩ := hx
        obtain rfl : cargs = #[.slice (some ca) n cp] := Array.toList_inj.1 e1
        rw [Option.map_eq_some_iff] at hg
        obtain ⟨h2, hw, hg⟩ := hg
        injection hg with hg1 hg2
        subst hg1 hg2
        obtain ⟨cells, hrd, hzs⟩ := Option.bind_eq_some_iff.1 hz
        have hcells := intsOf_eq hzs
        subst hcells
        have hw0 := hw
        unfold H.wr at hw
        split at hw
        · rename_i cs hgc
          split at hw
          · rename_i hfit
            cases hw
            have hrd2 := hrd
            unfold H.rd at hrd2
            rw [hgc] at hrd2
            dsimp only at hrd2
            have hon : o + n ≤ cs.length := by
              rcases Nat.lt_or_ge cs.length (o + n) with hh | hh
              · rw [if_neg (by omega)] at hrd2; cases hrd2
              · exact hh
            rw [if_pos hon] at hrd2
            injection hrd2 with hrd2
            have hzl : zs.length = n := by
              have := congrArg List.length hrd2
              rw [List.length_take, List.length_drop, List.length_map] at this; omega
            have hsl : (zs.mergeSort fun x y => decide (x ≤ y)).length = n := by rw [List.length_mergeSort]; exact hzl
            rw [List.length_map, hsl] at hfit hR
            rcases hor with h0 | ⟨rfl, _⟩
            · obtain rfl : n = 0 := by omega
              have hs0 := List.length_eq_zero_iff.1 hsl
              rw [hs0] at hR
              subst h0
              have hgeq : (h.set b (.cells (cs.take o ++ (([] : List V) ++ cs.drop (o + 0))))).get = h.get := by
                funext q
                rw [H.get_set]
                by_cases hq : q = b
                · rw [if_pos hq, hq, hgc, List.nil_append, Nat.add_zero, List.take_append_drop]
                · rw [if_neg hq]
              refine callsIn_wide.2 ((Tryz.slices_Sort_int_none (some ca) 0 w).mono ?_)
              rintro e w' ⟨rfl, rfl⟩
              refine ⟨.ret (.tup []), _, m, hR, ?_, ?_, ?_⟩
              · show VR m (.tup []) (.tuple #[])
                simp only [VR, VRs]; exact ⟨#[], rfl, rfl⟩
              all_goals clear hw0
              · show Sim _ m (h.set b (.cells (cs.take o ++ (([] : List V) ++ cs.drop (o + 0))))).get h.next _
                rw [hgeq]; exact s
              · show Ex m h.get h.next _ m (h.set b (.cells (cs.take o ++ (([] : List V) ++ cs.drop (o + 0))))).get h.next _
                rw [hgeq]; exact Ex.refl _ _ _ _ fun b' x e => (s.dom b' x e).1
            · obtain ⟨cc, el, fr, hwb, k1, k2, k3, k4⟩ := s.cells hy hgc
              have hH : Holds (Value.int .i64) w y.blk (y.sh + o) zs.toArray := by
                intro j hj
                have hj : j < zs.length := by simpa using hj
                have e1 : cs[o + j]? = some (.int .i64 zs[j]) := by
                  have := congrArg (fun l => l[j]?) hrd2
                  simp only [List.getElem?_take, List.getElem?_drop, List.getElem?_map] at this
                  rw [if_pos (by omega), List.getElem?_eq_getElem hj] at this
                  exact this
                obtain ⟨x, e2, e3⟩ := k4.get e1
                simp only [VR] at e3
                subst e3
                rw [List.getElem?_take, if_pos (by omega), List.getElem?_drop] at e2
                refine ⟨?_, ?_⟩
                · have hlt : y.sh + o + j < cc.size := by omega
                  simp only [World.cell?, hwb]
                  rw [show y.sh + (o + j) = y.sh + o + j from by omega, Array.getElem?_toList] at e2
                  rw [e2]
                  congr 2
                  rw [getElem!_pos _ j (by simpa using hj)]
                  simp
                · simp only [World.frozen?, hwb]
                  have := k3 (o + j) (by omega)
                  rw [show y.sh + (o + j) = y.sh + o + j from by omega] at this
                  exact this
              refine callsIn_wide.2 ((show Calls Tryz.prog 17 #[.slice (some ⟨y.blk, y.sh + o, none⟩) n cp] w _ from hzl ▸ Tryz.slices_Sort_int y.blk (y.sh + o) cp zs w hH (s.dom b y hy).2 (by omega)).mono ?_)
              rintro e w' ⟨rfl, nn, os, rfl⟩
              have hsz : (zs.mergeSort fun x y => decide (x ≤ y)).toArray.size = n := by simpa using hsl
              generalize hS : (zs.mergeSort fun x y => decide (x ≤ y)) = S at *
              have hblt := (s.dom b y hy).2
              have a1 : (putRow (Value.int .i64) (Sort.ahead w nn) y.blk (y.sh + o) S.toArray).heap[y.blk]? = some (.cells (putCells (Value.int .i64) (y.sh + o) S.toArray cc) el fr) := by
                show (w.heap.modify y.blk _)[y.blk]? = _
                rw [Array.getElem?_modify, if_pos rfl, hwb]; rfl
              have a2 : ∀ q, q ≠ y.blk → (putRow (Value.int .i64) (Sort.ahead w nn) y.blk (y.sh + o) S.toArray).heap[q]? = w.heap[q]? := by
                intro q hq
                show (w.heap.modify y.blk _)[q]? = _
                rw [Array.getElem?_modify, if_neg (Ne.symm hq)]
              have a3 : (putRow (Value.int .i64) (Sort.ahead w nn) y.blk (y.sh + o) S.toArray).heap.size = w.heap.size := by
                rw [size_putRow]; rfl
              have a4 : (putCells (Value.int .i64) (y.sh + o) S.toArray cc).toList = cc.toList.take (y.sh + o) ++ (S.map (.int .i64) ++ cc.toList.drop (y.sh + o + S.length)) := by
                rw [putCells_list (by rw [hsz]; omega), hsz, hsl]
              have a5 : (putCells (Value.int .i64) (y.sh + o) S.toArray cc).size = cc.size := by
                unfold putCells; exact Array.size_mapIdx
              have hor2 : OR Tryz.prog m y (.cells (cs.take o ++ (S.map (.int .i64) ++ cs.drop (o + n)))) (.cells (putCells (Value.int .i64) (y.sh + o) S.toArray cc) el fr) := by
                have hcl : (cs.take o ++ (S.map (V.int .i64) ++ cs.drop (o + n))).length = cs.length := by
                  simp only [List.length_append, List.length_take, List.length_map, List.length_drop]; omega
                refine ⟨_, el, fr, rfl, by rw [hcl]; exact k1, by rw [a5]; exact k2, k3, ?_⟩
                rw [hcl, a4]
                have e3 := list_write cc.toList (S.map (Value.int .i64)) y.sh o cs.length (by rw [List.length_map]; omega) (by have : cc.toList.length = cc.size := Array.length_toList; omega)
                rw [List.length_map] at e3
                rw [e3, hsl]
                exact (k4.take o).append ((ints_vrs S).append (k4.drop _))
              have s2 := s.set (w' := putRow (Value.int .i64) (Sort.ahead w nn) y.blk (y.sh + o) S.toArray) hy ⟨_, hgc, by nofun⟩ a3 a1 a2 hor2
              have x2 := Ex.set (o := .cells (cs.take o ++ (S.map (.int .i64) ++ cs.drop (o + n)))) (w' := putRow (Value.int .i64) (Sort.ahead w nn) y.blk (y.sh + o) S.toArray) s hy ⟨_, hgc, by nofun⟩ a3 a2 (fun c e => by rw [hgc] at e; cases e) ⟨rfl, rfl, rfl⟩
              obtain ⟨s3, x3⟩ := sim_more (w' := Sort.grow (putRow (Value.int .i64) (Sort.ahead w nn) y.blk (y.sh + o) S.toArray) os) s2 (by show _ ≤ (_ ++ os).size; rw [Array.size_append]; omega)
                (fun r hr => by show (_ ++ os)[r]? = _; rw [Array.getElem?_append, if_pos hr]) ⟨rfl, rfl, rfl⟩
              refine ⟨.ret (.tup []), _, m, hR, ?_, ?_, ?_⟩
              · show VR m (.tup []) (.tuple #[])
                simp only [VR, VRs]; exact ⟨#[], rfl, rfl⟩
              · rw [get_set_upd]; exact s3
              · rw [get_set_upd]; exact x2.trans x3
          · cases hw
        · cases hw
      · cases hg
    · cases hg
  · cases hg
end Go.Abs.Sy

namespace Go.Abs.Sy
open Go.Proofs

noncomputable def lawX (f : FuncId) : Option (List V → H → Option (Ret × H)) := if f = 17 then some xSort else if f = 4 then some mAwake.run else none
noncomputable def lawE : EEnv := ⟨ft, lawX⟩

theorem lawX_ok : XtS Tryz.prog lawE := by
  intro f g e
  have e : lawX f = some g := e
  unfold lawX at e
  split at e
  · rename_i h; cases e; rw [h]; exact okSort
  · split at e
    · rename_i h; cases e; rw [h]; exact okAwake
    · cases e

theorem lawE1 : Env1 lawE.env := by
  refine ⟨⟨rfl, EEnv.mono _, ?_⟩, rfl, rfl⟩
  intro f hf
  have : lawX f = none := by
    unfold lawX
    simp only [List.mem_cons, List.not_mem_nil, or_false] at hf
    rcases hf with rfl | rfl | rfl | rfl | rfl | rfl | rfl | rfl | rfl | rfl | rfl | rfl | rfl | rfl <;> rfl
  show (lawX f).map _ = none
  rw [this]; rfl

/-- the call, from a world whose blocks are known as far as they are read, and are read alone -/
theorem law_calls {m : Mp} {h : H} {w : World} (s : Sim Tryz.prog m h.get h.next w) (wf : WF h) (h8 : 8 ≤ h.next) (hro : ∀ b o, h.get b = some o → ∃ c, o = .rcells c)
    {v : V} {g : List Row} (fs : FsR h v g) (hf : fits20 g) (ht : tot g ≤ 3000000000000) {a x : SV} {n : Int} {cargs : Array Value} (ha : VRs m [v, .agg a.cells, .int .i64 n, .agg x.cells] cargs.toList) :
    Calls Tryz.prog 3 cargs w fun e w' => e = .returned (.bool true) ∧ w.heap.size ≤ w'.heap.size ∧ (∀ r, r < w.heap.size → w'.heap[r]? = w.heap[r]?) ∧ w'.tape = w.tape ∧ w'.os = w.os ∧ w'.output = w.output := by
  have hm : ∀ r ∈ g, r.1.vars.length ≤ 1048576 ∧ r.1.stack.length ≤ 1048576 := hf.2
  obtain ⟨M, hM⟩ : ∃ M, M = 1048576 := ⟨_, rfl⟩
  rw [← hM] at hm
  have hc := law3 (E := lawE.env) lawE1 rfl wf h8 fs hf ht hm (a := a) (x := x) (n := n) (R := fun r h' => r = .ret (.bool true) ∧ Pres h h') (fun h' p => ⟨rfl, p⟩) 0
  generalize hk : (0 + 2 * M + tot g + 500) = k at hc
  have hfr : (sems lawE.env k).frame 3 [v, .agg a.cells, .int .i64 n, .agg x.cells] none h fun r _ h' => r = .ret (.bool true) ∧ Pres h h' := by
    exact (show _ ∧ _ from hc).2
  refine (frame_calls mixed (ftS _ rfl) lawX_ok.ext (by rfl) hfr s ha).mono ?_
  rintro e w' ⟨r, h', m', ⟨got, rfl, p⟩, hend, s', ex⟩
  refine ⟨?_, ex.size, ?_, ex.rest⟩
  · cases e with
    | returned cv =>
      have hend : VR m' (.bool true) cv := hend
      simp only [VR] at hend
      rw [hend]
    | _ => exact False.elim hend
  · intro r hr
    by_cases hx : ∃ b x, m b = some x ∧ live h.get b ∧ x.blk = r
    · obtain ⟨b, x, hb, hl, rfl⟩ := hx
      have hl2 := hl
      obtain ⟨o, hg, _⟩ := hl
      obtain ⟨c, rfl⟩ := hro b o hg
      have hbn := (s.dom b x hb).1
      refine (ex.ro b x c hbn hr hb hg ?_).2
      exact ⟨_, (p.same b hbn).trans hg, by nofun⟩
    · exact ex.keep r hr fun b x hb hl e => hx ⟨b, x, hb, hl, e⟩
end Go.Abs.Sy
