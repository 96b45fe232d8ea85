/- Walk of the method Set of vars.Vars. -/
import Derived.Test.YtpmhkgjplghldaaVarsWalkB
namespace Go.Proofs.Ytpmhkgjplghldaa
open Go.RowKit Go.Deep Go.Maps
attribute [local go_sem] bt_eq

/-- has a text a byte 0? -/
def hasNul (v : ByteArray) : Bool := decide (0 ≤ Lib.indexByte v.data.toList 0)
/-- what Set answers -/
def vCode (D : VD) (name value : ByteArray) : Nat :=
  if !nmOk (bt name) name.size || hasNul value then 1 else if decide (4096 < value.size) || (!Maps.has D (kLit name) && decide (500 ≤ Maps.size D)) then 3 else 0
/-- what is set behind Set -/
def vSet (D : VD) (name value : ByteArray) : VD := if vCode D name value = 0 then D.put (kLit name) (sDat value) else D
/-- the variable at g holds D behind a call at w -/
def VPost (w : World) (g : Nat) (mv : Value) (D : VD) (w' : World) : Prop :=
  ∃ mv', w'.cell? ⟨g, 0, none⟩ = some mv' ∧ w'.frozen? ⟨g, 0, none⟩ = false ∧ MVal w' mv' D ∧ (mv' = mv ∨ mv' = .map (some w.heap.size)) ∧ Kp w w' (fun k => k = g ∨ mv = .map (some k))
set_option maxRecDepth 100000 in
set_option maxHeartbeats 1000000 in
theorem vset_any (g : Nat) (mv : Value) (D : VD) (name value : ByteArray) (w : World) (hs : name.size ≤ 9223372036854775807) (hv : value.size ≤ 9223372036854775807) (hc : w.cell? ⟨g, 0, none⟩ = some mv) (hf : w.frozen? ⟨g, 0, none⟩ = false) (hm : MVal w mv D) (hsz : Maps.size D ≤ 1000)
    (hg : ∀ b, mv = .map (some b) → b ≠ g) :
    Calls Try.prog 6 #[.pointer (some ⟨g, 0, none⟩), .string name, .string value] w fun e w' => e = .returned (.int .i64 (vCode D name value : Nat)) ∧ VPost w g mv (vSet D name value) w' := by
  obtain ⟨sv, _, hlook, _⟩ := mlook hm hs
  have hlen := fun ty => mlen hm ty
  have hgl : g < w.heap.size := World.block_lt_of_cell? w _ hc
  have HM := hide hm
  have HG := hide hg
  have HC := hide hc
  have HF := hide hf
  have HCD := hide (show vCode D name value = if !nmOk (bt name) name.size || hasNul value then 1 else if decide (4096 < value.size) || (!Maps.has D (kLit name) && decide (500 ≤ Maps.size D)) then 3 else 0 from rfl)
  have HST := hide (show vSet D name value = if vCode D name value = 0 then D.put (kLit name) (sDat value) else D from rfl)
  have hsame : vSet D name value = D → VPost w g mv (vSet D name value) w := fun e => by rw [e]; exact ⟨mv, HC.out, HF.out, HM.out, .inl rfl, Kp.refl _ _⟩
  have HSM := hide hsame
  clear hm hg hsame
  cases hok : nmOk (bt name) name.size with
  | false =>
    have HOK := hide hok
    clear hok
    have e1 : vCode D name value = 1 := by rw [HCD.out, HOK.out]; rfl
    have E1 := hide e1
    clear e1
    go_enter Try.func6, Try.ntmps6
    go_wp2_with fail
    refine (name_any name w hs).mono ?_
    rintro e w' ⟨rfl, rfl⟩
    rw [HOK.out]
    go_wp2
    go_ret
    refine ⟨?_, HSM.out (by rw [HST.out, E1.out]; rfl)⟩
    rw [E1.out] <;> rfl
  | true =>
    have HOK := hide hok
    clear hok
    cases hnul : hasNul value with
    | true =>
      have HN := hide hnul
      clear hnul
      have e1 : vCode D name value = 1 := by rw [HCD.out, HOK.out, HN.out]; rfl
      have E1 := hide e1
      clear e1
      go_enter Try.func6, Try.ntmps6
      go_wp2_with fail
      refine (name_any name w hs).mono ?_
      rintro e w' ⟨rfl, rfl⟩
      rw [HOK.out]
      go_wp2_with fail
      refine (Try.strings_Contains_one value 0 w).mono ?_
      rintro e w' ⟨rfl, rfl⟩
      rw [show decide (0 ≤ Lib.indexByte value.data.toList 0) = true from HN.out]
      go_wp2
      go_ret
      refine ⟨?_, HSM.out (by rw [HST.out, E1.out]; rfl)⟩
      rw [E1.out] <;> rfl
    | false =>
      have HN := hide hnul
      clear hnul
      by_cases hlv : 4096 < value.size
      · have e1 : vCode D name value = 3 := by rw [HCD.out, HOK.out, HN.out]; simp [hlv]
        have E1 := hide e1
        clear e1
        go_enter Try.func6, Try.ntmps6
        go_wp2_with fail
        refine (name_any name w hs).mono ?_
        rintro e w' ⟨rfl, rfl⟩
        rw [HOK.out]
        go_wp2_with fail
        refine (Try.strings_Contains_one value 0 w).mono ?_
        rintro e w' ⟨rfl, rfl⟩
        rw [show decide (0 ≤ Lib.indexByte value.data.toList 0) = false from HN.out]
        go_wp2
        go_ret
        refine ⟨?_, HSM.out (by rw [HST.out, E1.out]; rfl)⟩
        rw [E1.out] <;> rfl
      · cases hth : Maps.has D (kLit name) with
        | false =>
          rw [hth] at hlook
          have HT := hide hth
          clear hth
          by_cases h5 : 500 ≤ Maps.size D
          · have e1 : vCode D name value = 3 := by rw [HCD.out, HOK.out, HN.out, HT.out]; simp [h5]
            have E1 := hide e1
            clear e1
            go_enter Try.func6, Try.ntmps6
            go_wp2_with fail
            refine (name_any name w hs).mono ?_
            rintro e w' ⟨rfl, rfl⟩
            rw [HOK.out]
            go_wp2_with fail
            refine (Try.strings_Contains_one value 0 w).mono ?_
            rintro e w' ⟨rfl, rfl⟩
            rw [show decide (0 ≤ Lib.indexByte value.data.toList 0) = false from HN.out]
            go_wp2
            go_ret
            refine ⟨?_, HSM.out (by rw [HST.out, E1.out]; rfl)⟩
            rw [E1.out] <;> rfl
          · have e1 : vCode D name value = 0 := by rw [HCD.out, HOK.out, HN.out, HT.out]; simp [h5, hlv]
            have E1 := hide e1
            clear e1
            rcases HM.out with ⟨rfl, rfl⟩ | ⟨b, rfl, hown⟩
            · have hcx : ((w.setCell ⟨g, 0, none⟩ (.map (some w.heap.size))).alloc (.map #[] 0)).cell? ⟨g, 0, none⟩ = some (.map (some w.heap.size)) := (World.cell?_alloc_old _ _ _ (by show g ≠ (w.setCell ⟨g, 0, none⟩ (.map (some w.heap.size))).heap.size; rw [World.size_setCell]; omega)).trans (World.cell?_setCell_same _ _ _ HC.out)
              have how : ((w.setCell ⟨g, 0, none⟩ (.map (some w.heap.size))).alloc (.map #[] 0)).ownsMap Try.prog 9 (plainElem Try.prog 9) w.heap.size (Maps.size (.map [] : VD)) (.map [] : VD) := by
                  have := World.ownsMap_made (H := Unit) (w.setCell ⟨g, 0, none⟩ (.map (some w.heap.size))) Try.prog 9 (plainElem Try.prog 9)
                  rwa [World.size_setCell] at this
              obtain ⟨w2, hupd, hm2, hk2⟩ := mstore how (by decide) hs hv
              have HP := hide (show VPost w g (.map none) (DataW.put (.map []) (kLit name) (sDat value)) w2 from by
                refine ⟨_, hk2.cell hcx (by show ¬ g = w.heap.size; omega), ?_, hm2, .inr rfl, ?_⟩
                · refine hk2.frozen (by simp; omega) ?_ (by show ¬ g = w.heap.size; omega)
                  exact (World.frozen?_alloc_past _ _ _ (by rw [World.size_setCell]; exact hgl)).trans ((World.frozen?_setCell _ _ _ _).trans HF.out)
                · refine ⟨hk2.os, hk2.tape, hk2.output, Nat.le_trans (by simp) hk2.size, fun k hk hne => ?_⟩
                  rw [hk2.block k (by simp; omega) (by show ¬ k = w.heap.size; omega)]
                  rw [heap_alloc_old _ _ (by rw [World.size_setCell]; exact hk), blk_setCell_other _ _ _ _ (by show k ≠ g; intro e; exact hne (.inl e))])
              clear how hk2 hm2
              have hnn := run_eql_map_nil w 24 9 9 none Try.underlying24
              have hmk := @run_makeMap Try.prog
              go_enter Try.func6, Try.ntmps6
              go_wp2_with fail
              refine (name_any name w hs).mono ?_
              rintro e w' ⟨rfl, rfl⟩
              rw [HOK.out]
              go_wp2_with fail
              refine (Try.strings_Contains_one value 0 w).mono ?_
              rintro e w' ⟨rfl, rfl⟩
              rw [show decide (0 ≤ Lib.indexByte value.data.toList 0) = false from HN.out]
              go_wp2
              go_ret
              refine ⟨?_, by rw [HST.out, E1.out]; exact HP.out⟩
              rw [E1.out] <;> rfl
            · obtain ⟨w2, hupd, hm2, hk2⟩ := mstore hown (by omega) hs hv
              have HP := hide (show VPost w g (.map (some b)) (D.put (kLit name) (sDat value)) w2 from
                ⟨_, hk2.cell HC.out (fun e => HG.out b rfl e.symm), hk2.frozen hgl HF.out (fun e => HG.out b rfl e.symm), hm2, .inl rfl, hk2.os, hk2.tape, hk2.output, hk2.size, fun k hk hne => hk2.block k hk (fun e => hne (.inr (by rw [e])))⟩)
              clear hown hm2 hk2
              have hnn := run_eql_map_nil w 24 9 9 (some b) Try.underlying24
              go_enter Try.func6, Try.ntmps6
              go_wp2_with fail
              refine (name_any name w hs).mono ?_
              rintro e w' ⟨rfl, rfl⟩
              rw [HOK.out]
              go_wp2_with fail
              refine (Try.strings_Contains_one value 0 w).mono ?_
              rintro e w' ⟨rfl, rfl⟩
              rw [show decide (0 ≤ Lib.indexByte value.data.toList 0) = false from HN.out]
              go_wp2
              go_ret
              refine ⟨?_, by rw [HST.out, E1.out]; exact HP.out⟩
              rw [E1.out] <;> rfl
        | true =>
          rw [hth] at hlook
          have HT := hide hth
          clear hth
          have e1 : vCode D name value = 0 := by rw [HCD.out, HOK.out, HN.out, HT.out]; simp [hlv]
          have E1 := hide e1
          clear e1
          rcases HM.out with ⟨rfl, rfl⟩ | ⟨b, rfl, hown⟩
          · exact Bool.noConfusion (show false = true from HT.out)
          · obtain ⟨w2, hupd, hm2, hk2⟩ := mstore hown (by omega) hs hv
            have HP := hide (show VPost w g (.map (some b)) (D.put (kLit name) (sDat value)) w2 from
              ⟨_, hk2.cell HC.out (fun e => HG.out b rfl e.symm), hk2.frozen hgl HF.out (fun e => HG.out b rfl e.symm), hm2, .inl rfl, hk2.os, hk2.tape, hk2.output, hk2.size, fun k hk hne => hk2.block k hk (fun e => hne (.inr (by rw [e])))⟩)
            clear hown hm2 hk2
            have hnn := run_eql_map_nil w 24 9 9 (some b) Try.underlying24
            go_enter Try.func6, Try.ntmps6
            go_wp2_with fail
            refine (name_any name w hs).mono ?_
            rintro e w' ⟨rfl, rfl⟩
            rw [HOK.out]
            go_wp2_with fail
            refine (Try.strings_Contains_one value 0 w).mono ?_
            rintro e w' ⟨rfl, rfl⟩
            rw [show decide (0 ≤ Lib.indexByte value.data.toList 0) = false from HN.out]
            go_wp2
            go_ret
            refine ⟨?_, by rw [HST.out, E1.out]; exact HP.out⟩
            rw [E1.out] <;> rfl
end Go.Proofs.Ytpmhkgjplghldaa
