/- Walks of the file system's below, names and List. Walk of the file system's List. -/
import Derived.Test.YtkajhdbcnmafcaaGreatDoorVfsWalkA
import Derived.Test.YtkajhdbcnmafcaaGreatDoorVfsMath
import Derived.Test.YtkajhdbcnmafcaaGreatDoorSortOwn
import Derived.Test.YtkajhdbcnmafcaaGreatDoorPathWalkA
import Derived.Maps.RangeWalk
import Derived.StringKeys
namespace Go.Proofs.YtkajhdbcnmafcaaGreatDoor
open Go.RowKit Go.Deep Go.Maps Ln Pth Vf
attribute [local go_sem] bt_eq fld0 fld1 fld2 mkMap

theorem trim_slash (q : T) : (Lib.trimSuffix (bs q).data.toList [47]) ++ [47] = frontF q := by
  rw [bs_list]
  unfold Lib.trimSuffix Lib.hasSuffix frontF
  have h : ([47] : List UInt8).isSuffixOf q = decide (q.getLast? = some 47) := by
    rw [Bool.eq_iff_iff, List.isSuffixOf_iff_suffix, decide_eq_true_iff]
    constructor
    · rintro ⟨t, rfl⟩; simp
    · intro h
      obtain ⟨t, ht⟩ := List.getLast?_eq_some_iff.1 h
      exact ⟨t, ht.symm⟩
  rw [h]
  by_cases e : q.getLast? = some 47
  · simp only [e, decide_true, if_true]
    rw [List.dropLast_eq_take]; rfl
  · simp only [e, decide_false, if_false]; rfl
theorem front_any (q : T) (w : World) (hq : q.length ≤ 100000) : Calls Tryz.prog 111 #[.string (bs q), .string ⟨#[47]⟩] w fun e w' => ∃ s : ByteArray, e = .returned (.string s) ∧ w = w' ∧ s ++ (⟨#[47]⟩ : ByteArray) = bs (frontF q) ∧ s.size ≤ 100000 := by
  refine (Tryz.strings_TrimSuffix (bs q) ⟨#[47]⟩ w (by rw [bs_size]; omega)).mono ?_
  rintro e w' ⟨h1, h2⟩
  refine ⟨_, h1, h2.symm, ?_, ?_⟩
  · rw [← trim_slash]
    exact bs_app _ [47]
  · rw [show (⟨#[47]⟩ : ByteArray).data.toList = [47] from rfl, bs_list]
    show (bs _).size ≤ _
    rw [bs_size]
    unfold Lib.trimSuffix
    split
    · rw [List.length_take]; omega
    · omega
theorem pre_any (s : ByteArray) (fr : T) (w : World) : Calls Tryz.prog 102 #[.string s, .string (bs fr)] w fun e w' => e = .returned (.bool (preB fr s.data.toList)) ∧ w = w' := by
  refine (Tryz.strings_HasPrefix s (bs fr) w).mono ?_
  rintro e w' ⟨h1, h2⟩
  rw [bs_list] at h1
  exact ⟨h1, h2.symm⟩
/-- what a range loop over the nodes has still to come -/
abbrev NRng (w : World) (b r : Nat) (P : KV En) (left : Lit → Bool) (cnt : Nat) : Prop := w.ranges Tryz.prog 9 hR b r P.length (datG fN P) left cnt
set_option maxRecDepth 100000 in
theorem key_in {P : KV En} {x : ByteArray} {kl : Lit} {y : DataW Value × List MemPlace} (hkey : keyOf Tryz.prog 9 (.string x) = some kl) (hat : ∀ zd, (datG fN P).atKey kl zd = y.1) : kl = kLit x ∧ x ∈ P.map (·.1) := by
  have hk : kl = kLit x := by
    obtain ⟨s, h1, h2, h3⟩ := Go.WideMaps.string_of_keyOf Tryz.underlying9 hkey
    injection h1 with h1
    rw [h1]
    exact h2
  refine ⟨hk, ?_⟩
  subst hk
  cases hg : getG P x with
  | none =>
    have h1 := hat (.lit (.bool true))
    have h2 := hat (.lit (.bool false))
    rw [datG_at, hg] at h1 h2
    simp only at h1 h2
    rw [← h2] at h1
    injection h1 with h1
    injection h1 with h1
    cases h1
  | some e => exact List.mem_map.2 ⟨_, getG_mem hg, rfl⟩
def gone (left : Lit → Bool) (k : ByteArray) : Bool := !left (kLit k)
theorem gone_step (left : Lit → Bool) (x k : ByteArray) : gone (fun z => left z && !z.sameKey (kLit x)) k = (gone left k || decide (k = x)) := by
  unfold gone
  simp only [same_kLit]
  cases left (kLit k) <;> simp
def collB (P : KV En) (fr : T) (left : Lit → Bool) : List ByteArray := (P.map (·.1)).filter fun k => preB fr k.data.toList && gone left k
theorem coll_len (P : KV En) (fr : T) (left : Lit → Bool) : (collB P fr left).length ≤ P.length := by
  unfold collB
  refine Nat.le_trans (List.length_filter_le _ _) ?_
  rw [List.length_map]; exact Nat.le_refl _
theorem coll_start (P : KV En) (fr : T) : collB P fr (Maps.has (datG fN P)) = [] := by
  unfold collB
  rw [List.filter_eq_nil_iff]
  intro k hk
  obtain ⟨x, hx, rfl⟩ := List.mem_map.1 hk
  have : gone (Maps.has (datG fN P)) x.1 = false := by
    unfold gone
    rw [datG_has]
    have : (getG P x.1).isSome = true := by
      unfold getG
      rw [Option.isSome_map, List.find?_isSome]
      exact ⟨x, hx, by simp⟩
    rw [this]; rfl
  rw [this]
  simp
theorem coll_end (P : KV En) (q : T) {left : Lit → Bool} (h : ∀ kl, left kl = false) : (collB P (frontF q) left).map (fun s => s.data.toList) = belowM (stripN P) q := by
  rw [below_map]
  unfold collB stripN gone
  rw [List.map_map]
  congr 1
  apply List.filter_congr
  intro k _
  rw [h]
  simp
set_option maxRecDepth 100000 in
set_option maxHeartbeats 4000000 in
theorem below_anyR (g : Nat) (S : St) (hSr : RiseG S.m) (hSn : S.m.length ≤ 10000) (q : T) (w : World) (h : Hs (VS g S) w) (hq : q.length ≤ 90000) :
    Calls Tryz.prog 57 #[.pointer (some ⟨g, 0, none⟩), .string (bs q)] w fun e w' => (∃ v, e = .returned v ∧ OwnS w' w.heap.size v ((belowM S.m q).map bs)) ∧ Below w.heap.size w w' := by
  obtain ⟨b, P, hgb, hg, hm, hsm, _⟩ := VS.opn h
  have hc0 := cellOf hg (j := 0) rfl
  have hbl := hm.lt
  have hrise : RiseG P := strip_rise.1 (hsm ▸ hSr)
  have hnd := rise_nodup hrise
  have hpl : P.length ≤ 10000 := by rw [← strip_len, ← hsm]; exact hSn
  have HF := hide (front_any q w (by omega))
  have HM := hide hm
  have HSM := hide hsm
  have HND := hide hnd
  have HR := hide hrise
  have hfl : (frontF q).length ≤ 90001 := by
    unfold frontF
    rw [List.length_append]
    split
    · rw [List.length_dropLast]; simp; omega
    · simp; omega
  obtain ⟨fr, hfr⟩ : ∃ fr, frontF q = fr := ⟨_, rfl⟩
  rw [hfr] at HF hfl
  have HFR := hide hfr
  have zfr : (bs fr).size = fr.length := bs_size fr
  clear h hSr hSn hg hm hsm hgb hrise hnd hfr
  go_enter Tryz.func57, Tryz.ntmps57
  go_wp2_with fail
  refine HF.out.mono ?_
  rintro e w' ⟨s, rfl, rfl, hsf, hss⟩
  clear HF
  go_wp2_with (at_range; refine wpList_range_own _ rfl _ 84 rfl 9 94 nkeyed Tryz.underlying84 hR b P.length (datG fN P) rfl HM.out ?_; intro w0 hrg0 hg0 hs0)
  have hb0 : Below w.heap.size w w0 := ⟨hg0.os, hg0.tape, hg0.output, hg0.size, fun k hk => hg0.block k hk (by simp)⟩
  have HB0 := hide hb0
  have HG0 := hide hrg0
  have HCS := hide (coll_start P fr)
  clear hb0 hg0 hrg0
  obtain ⟨r, hr⟩ : ∃ r, w.heap.size = r := ⟨_, rfl⟩
  rw [hr] at HG0 hbl hs0 ⊢
  have HRR := hide hr
  clear hr
  go_frame
  go_loopw [6, 7] (fun v6 _ wr => ∃ (acc : List ByteArray) (left : Lit → Bool) (cnt : Nat), NRng wr b r P left cnt ∧ OwnS wr (r + 1) v6 acc ∧ Hid (acc.Perm (collB P fr left)) ∧ r + 1 ≤ wr.heap.size ∧ Below r w wr) (fun _ _ wr => wr.rangeLeft b r)
  case atStart => exact ⟨[], _, _, HG0.out, OwnS.nil _ _, by show List.Perm _ _; rw [HCS.out], by omega, by rw [← HRR.out]; exact HB0.out⟩
  case round =>
    obtain ⟨acc, left, cnt, hrg, ho, HP, hsz, hbw⟩ := hrel
    have HRG := hide hrg
    have HO := hide ho
    have HBW := hide hbw
    clear hrg ho hbw
    go_wp2_with (at_next; refine wpList_next_ranges _ rfl _ rfl 9 nkeyed hR Value.string (fun v : Value => v) (fun key kl h => by obtain ⟨s, h1, _⟩ := Go.WideMaps.string_of_keyOf Tryz.underlying9 h; exact ⟨s, h1⟩) (fun v y _ => ⟨v, rfl⟩) b r P.length (datG fN P) left cnt rfl HRG.out ?_ ?_)
    · intro hc0 hl0
      have HL0 := hide hl0
      clear hl0 hc0
      have hal : acc.length ≤ 100000 := by
        have := HP.out.length_eq
        have := coll_len P fr left
        omega
      have HSO := hide (sortOwn_any HO.out hal)
      have HBQ := hide (show (((acc.map fun s => s.data.toList).mergeSort fun x y => decide (x ≤ y)).map fun l => (⟨l.toArray⟩ : ByteArray)) = (belowM S.m q).map bs by
        have h1 := HP.out.map (fun s : ByteArray => s.data.toList)
        rw [← HFR.out, coll_end P q HL0.out] at h1
        have hr' : RiseG (stripN P) := strip_rise.2 HR.out
        rw [sort_below hr' q h1, HSM.out]
        rfl)
      rw [HBQ.out] at HSO
      clear HRG HP hal
      go_wp2_with fail
      refine HSO.out.mono ?_
      rintro e w2 ⟨rfl, ho2, hg2⟩
      have HO2 := hide ho2
      have HB2 := hide (HBW.out.grown hg2 (by omega) (fun k hk => by have := (World.ownsRow.lt HO.out k hk).1; omega))
      clear ho2 hg2
      go_wp2
      go_ret
      exact ⟨⟨_, rfl, HO2.out.base (by have := HRR.out; omega)⟩, by have := HRR.out; rw [this]; exact HB2.out⟩
    · intro x c kl y1 y2 w1 cnt1 hkey hlk hv hat hrg1 hlt hgr1 hsz1 hen
      obtain ⟨rfl, hxin⟩ := key_in (y := (y1, y2)) hkey hat
      have hgs : gone left x = false := by unfold gone; rw [hlk]; rfl
      have HST := hide (filt_step HND.out hxin (p := fun k => preB fr k.data.toList) (q := gone left) (q' := gone (fun z => left z && !z.sameKey (kLit x))) (fun k => gone_step left x k) hgs)
      have HR1 := hide hrg1
      have HO1 := hide (HO.out.kept hgr1 (.inr (fun e => by have := (World.ownsRow.lt HO.out r e).1; omega)))
      have hb1 : Below r w w1 := HBW.out.grown hgr1 (by omega) (fun k hk => by injection hk with hk; omega)
      have HB1 := hide hb1
      have HCN := hide (show wr.rangeLeft b r = cnt from HRG.out.left_eq)
      have hxl : acc.length ≤ 10000 := by
        have := HP.out.length_eq
        have := coll_len P fr left
        omega
      have hs1a : r + 1 ≤ w1.heap.size := by omega
      clear hkey hlk hv hat hrg1 hgr1 hb1 hxin hgs hsz1
      obtain ⟨pb, hpb⟩ : ∃ b, preB fr x.data.toList = b := ⟨_, rfl⟩
      have HPA := hide (pre_any x fr w1)
      rw [hpb] at HPA
      have HPB := hide hpb
      clear hpb
      go_wp2_with fail
      refine HPA.out.mono ?_
      rintro e w' ⟨rfl, rfl⟩
      cases pb with
      | false =>
        have HE := hide (show acc.Perm (collB P fr (fun z => left z && !z.sameKey (kLit x))) from by
          have h1 := HST.out
          simp only [HPB.out, Bool.false_eq_true, if_false, List.append_nil] at h1
          exact HP.out.trans h1.symm)
        go_wp2
        go_roundw
        case rel => exact ⟨acc, _, cnt1, HR1.out, HO1.out, HE.out, by omega, HB1.out⟩
        case measure => rw [HR1.out.left_eq, HCN.out]; exact hlt
      | true =>
        have HE := hide (show (acc ++ [x]).Perm (collB P fr (fun z => left z && !z.sameKey (kLit x))) from by
          have h1 := HST.out
          simp only [HPB.out, if_true] at h1
          exact (HP.out.append (List.Perm.refl [x])).trans h1.symm)
        obtain ⟨v4, w4, r4, o4, g4, b4⟩ := run_appS (c := 1) (OwnS.alloc HO1.out (.cells #[.string x] 9)) (sr_new w1 x) (by simp; omega) (by simp; omega)
        have HO4 := hide o4
        have HR4 := hide ((HR1.out.alloc (.cells #[.string x] 9)).kept g4 (fun e => by have := (World.ownsRow.lt HO.out b e.symm).1; omega) (fun e => by have := (World.ownsRow.lt HO.out r e.symm).1; omega))
        have HB4 := hide ((HB1.out.alloc (by omega) (.cells #[.string x] 9)).grown g4 (by simp; omega) (fun k hk => by have := (World.ownsRow.lt HO.out k hk).1; omega))
        have hz4 : r + 1 ≤ w4.heap.size := by have := g4.size; simp at this; omega
        clear o4 g4 b4
        go_wp2_with (at_builtin; refine wpList_app_run ?_ (.tmp 23) (.tmp 25) ?_ ?_ ?_ ?_ r4 ?_; exact rfl; exact rfl; exact rfl; exact rfl; exact rfl)
        go_roundw
        case rel => exact ⟨acc ++ [x], _, cnt1, HR4.out, HO4.out, HE.out, hz4, HB4.out⟩
        case measure => rw [HR4.out.left_eq, HCN.out]; exact hlt
theorem below_any (g : Nat) (S : St) (hS : WfS S) (q : T) (w : World) (h : Hs (VS g S) w) (hq : q.length ≤ 90000) :
    Calls Tryz.prog 57 #[.pointer (some ⟨g, 0, none⟩), .string (bs q)] w fun e w' => (∃ v, e = .returned v ∧ OwnS w' w.heap.size v ((belowM S.m q).map bs)) ∧ Below w.heap.size w w' :=
  below_anyR g S hS.rise (by have := hS.nodes; have := hS.n10; omega) q w h hq
theorem names_take {fr : T} {L : List T} {k : Nat} {x : T} (h : L[k]? = some x) : (((L.take (k + 1)).map (List.drop fr.length)).filter fun s => decide (47 ∉ s)) = (((L.take k).map (List.drop fr.length)).filter fun s => decide (47 ∉ s)) ++ if 47 ∈ x.drop fr.length then [] else [x.drop fr.length] := by
  rw [List.take_add_one, h, List.map_append, List.filter_append]
  congr 1
  simp only [Option.toList_some, List.map_cons, List.map_nil, List.filter_cons, List.filter_nil]
  by_cases e : 47 ∈ x.drop fr.length
  · simp [e]
  · simp [e]
theorem has47_any (l : T) (w : World) : Calls Tryz.prog 101 #[.string (bs l), .string ⟨#[47]⟩] w fun e w' => e = .returned (.bool (decide (47 ∈ l))) ∧ w = w' := by
  have := Tryz.strings_Contains_one (bs l) 47 w
  rw [bs_list, show decide (0 ≤ Lib.indexByte l 47) = decide ((47 : UInt8) ∈ l) from decide_eq_decide.2 (ixb_mem 47 l)] at this
  exact this.mono fun e w' ⟨h1, h2⟩ => ⟨h1, h2.symm⟩
set_option maxRecDepth 100000 in
set_option maxHeartbeats 4000000 in
theorem names_any (g : Nat) (S : St) (hS : WfS S) (q : T) (w : World) (h : Hs (VS g S) w) (hq : q.length ≤ 90000) :
    Calls Tryz.prog 125 #[.pointer (some ⟨g, 0, none⟩), .string (bs q)] w fun e w' => (∃ v, e = .returned v ∧ OwnS w' w.heap.size v ((namesM S.m q).map bs)) ∧ Below w.heap.size w w' := by
  have HF := hide (front_any q w (by omega))
  have HBL := hide (below_any g S hS q w h hq)
  have hpl : S.m.length ≤ 10000 := by have := hS.nodes; have := hS.n10; omega
  have hbl : (belowM S.m q).length ≤ 10000 := by
    unfold belowM
    refine Nat.le_trans (List.length_filter_le _ _) ?_
    rw [List.length_map]; exact hpl
  have hmem : ∀ x ∈ belowM S.m q, (frontF q).length ≤ x.length ∧ x.length ≤ 200 := by
    intro x hx
    obtain ⟨r, n, rfl, hm⟩ := mem_below.1 hx
    refine ⟨by simp, ?_⟩
    obtain ⟨l, hl, _, e⟩ := hS.good _ hm
    have := hl.len
    rw [← bs_inj e] at this
    exact this
  have hR : namesM S.m q = ((belowM S.m q).map (List.drop (frontF q).length)).filter fun s => decide (47 ∉ s) := rfl
  obtain ⟨L, hL⟩ : ∃ L, belowM S.m q = L := ⟨_, rfl⟩
  obtain ⟨fr, hfr⟩ : ∃ fr, frontF q = fr := ⟨_, rfl⟩
  rw [hL] at HBL hbl hmem hR
  rw [hfr] at HF hmem hR
  have HMEM := hide hmem
  have HR := hide hR
  have zfr : (bs fr).size = fr.length := bs_size fr
  have hfl : fr.length ≤ 90001 := by
    rw [← hfr]
    unfold frontF
    rw [List.length_append]
    split
    · rw [List.length_dropLast]; simp; omega
    · simp; omega
  clear h hS hmem hR hL hfr hpl
  obtain ⟨n, hn⟩ : ∃ n, L.length = n := ⟨_, rfl⟩
  have HN := hide hn
  rw [hn] at hbl
  clear hn
  have hn1 : (n : Int) ≤ 10000 := by omega
  obtain ⟨fl, hfl'⟩ : ∃ k, fr.length = k := ⟨_, rfl⟩
  have HFL := hide hfl'
  rw [hfl'] at zfr hfl
  clear hfl'
  go_enter Tryz.func125, Tryz.ntmps125
  go_wp2_with fail
  refine HF.out.mono ?_
  rintro e w' ⟨s, rfl, rfl, hsf, hss⟩
  clear HF
  go_wp2_with fail
  refine HBL.out.mono ?_
  rintro e w1 ⟨⟨v, rfl, ho⟩, hb⟩
  obtain ⟨A, c, rfl, hc, hsr, _⟩ := ho.slice
  rw [List.length_map, HN.out] at hc ⊢
  have HSR := hide hsr
  have HB1 := hide hb
  clear ho hb hsr
  have hw1 : w.heap.size ≤ w1.heap.size := HB1.out.size
  go_wp2
  go_loopw [6, 8, 9, 17] (fun v6 _ _ v17 wr => ∃ k : Nat, v17 = .int .i64 k ∧ k ≤ n ∧ OwnS wr w1.heap.size v6 ((((L.take k).map (List.drop fr.length)).filter fun s => decide (47 ∉ s)).map bs) ∧ Below w1.heap.size w1 wr) (fun _ _ _ v17 _ => n - (intOf v17).toNat)
  case atStart => exact ⟨0, rfl, by omega, OwnS.nil _ _, Below.refl _ _⟩
  case round =>
    obtain ⟨k, rfl, hk, ho, hb1⟩ := hrel
    have HO := hide ho
    have HB := hide (below_up HB1.out hb1 hw1)
    have HBW := hide hb1
    have HAR := hide (HSR.out.below hb1)
    clear ho hb1
    by_cases hlt : k < n
    · obtain ⟨x, hx⟩ : ∃ x, L[k]? = some x := ⟨L[k]'(by have := HN.out; omega), List.getElem?_eq_getElem _⟩
      obtain ⟨gs, o, rfl, hg, hc⟩ := HAR.out k (bs x) (by rw [List.getElem?_map, hx]; rfl)
      obtain ⟨hx1, hx2⟩ := HMEM.out x (List.mem_of_getElem? hx)
      rw [HFL.out] at hx1
      have HTK := hide (names_take (fr := fr) hx)
      have zx : (bs x).size = x.length := bs_size x
      obtain ⟨xl, hxl⟩ : ∃ k, x.length = k := ⟨_, rfl⟩
      rw [hxl] at zx hx1 hx2
      have HXL := hide hxl
      have HEX := hide (show (bs x).extract fl (bs x).size = bs (x.drop fr.length) by rw [ext_bs, bs_size, HFL.out, List.take_of_length_le (by rw [List.length_drop]; omega)])
      have HH := hide (has47_any (x.drop fr.length) wr)
      have b1 : (k : Int) < (n : Int) := by omega
      have hql : ((((L.take k).map (List.drop fr.length)).filter fun s => decide (47 ∉ s)).map bs).length ≤ 10000 := by
        rw [List.length_map]
        refine Nat.le_trans (List.length_filter_le _ _) ?_
        rw [List.length_map, List.length_take]
        omega
      have hwr : w1.heap.size ≤ wr.heap.size := HBW.out.size
      clear hx hxl
      rw [zx] at HEX
      rw [← HEX.out] at HH
      obtain ⟨cb, hcb⟩ : ∃ b, decide ((47 : UInt8) ∈ x.drop fr.length) = b := ⟨_, rfl⟩
      rw [hcb] at HH
      have HCB := hide hcb
      clear hcb
      go_wp2_with fail
      refine HH.out.mono ?_
      rintro e w' ⟨rfl, rfl⟩
      cases cb with
      | true =>
        have HE := hide (show (((L.take (k + 1)).map (List.drop fr.length)).filter fun s => decide (47 ∉ s)) = (((L.take k).map (List.drop fr.length)).filter fun s => decide (47 ∉ s)) by rw [HTK.out, if_pos (of_decide_eq_true HCB.out), List.append_nil])
        go_wp2
        go_roundw
        case rel => exact ⟨k + 1, by go_num, by omega, by rw [HE.out]; exact HO.out, HBW.out⟩
        case measure => simp [intOf]; omega
      | false =>
        have HE := hide (show (((L.take (k + 1)).map (List.drop fr.length)).filter fun s => decide (47 ∉ s)) = (((L.take k).map (List.drop fr.length)).filter fun s => decide (47 ∉ s)) ++ [x.drop fr.length] by rw [HTK.out, if_neg (of_decide_eq_false HCB.out)])
        obtain ⟨y, hy⟩ : ∃ y, (bs x).extract fl xl = y := ⟨_, rfl⟩
        have HY := hide hy
        obtain ⟨v4, w4, r4, o4, g4, b4⟩ := run_appS (c := 1) (OwnS.alloc HO.out (.cells #[.string y] 9)) (sr_new wr y) (by simp; omega) (by simp only [List.length_cons, List.length_nil]; omega)
        have HO4 := hide o4
        have HB4 := hide ((HBW.out.alloc hwr (.cells #[.string y] 9)).grown g4 (by simp; omega) (fun q hq => (World.ownsRow.lt HO.out q hq).1))
        have HYB := hide (show y = bs (x.drop fr.length) by rw [← hy]; exact HEX.out)
        clear o4 g4 b4
        go_wp2_with (at_builtin; refine wpList_app_run ?_ (.tmp 28) (.tmp 30) ?_ ?_ ?_ ?_ r4 ?_; exact rfl; exact rfl; exact rfl; exact rfl; exact rfl)
        go_roundw
        case rel => exact ⟨k + 1, by go_num, by omega, by rw [HE.out, List.map_append]; have := HO4.out; rw [HYB.out] at this; exact this, HB4.out⟩
        case measure => simp [intOf]; omega
    · obtain rfl : k = n := by omega
      have HF := hide (show (((L.take k).map (List.drop fr.length)).filter fun s => decide (47 ∉ s)) = namesM S.m q by rw [List.take_of_length_le (by have := HN.out; omega), HR.out])
      rw [HF.out] at HO
      go_wp2
      go_ret
      exact ⟨⟨_, rfl, HO.out.base hw1⟩, HB.out⟩
end Go.Proofs.YtkajhdbcnmafcaaGreatDoor
namespace Go.Proofs.YtkajhdbcnmafcaaGreatDoor
open Go.RowKit Go.Deep Go.Maps Ln Pth Vf
attribute [local go_sem] bt_eq fld0 fld1 fld2 mkMap

/-- what List tells -/
def ListPost (r : List T × Nat) (w : World) (e : Ending) (w' : World) : Prop := (∃ v, e = .returned (.tuple #[v, .int .i64 r.2]) ∧ OwnS w' w.heap.size v (r.1.map bs)) ∧ Below w.heap.size w w'
set_option maxRecDepth 100000 in
set_option maxHeartbeats 1000000 in
theorem list_any (g : Nat) (S : St) (hS : WfS S) (p : T) (w : World) (h : Hs (VS g S) w) (hm : MX w) (hp : p.length ≤ 50000) :
    Calls Tryz.prog 84 #[.pointer (some ⟨g, 0, none⟩), .string (bs p)] w (ListPost (listS S p) w) := by
  have HA := hide (vfound_any g S p w h hm hp)
  have hl : (foundS S p).1.length ≤ 200 := absS_len S p
  have HK := hide (fun W (hb : Below w.heap.size w W) => kind_any g S (foundS S p).1 W (h.below (VS.fr g S) hb) (by omega))
  have HNM := hide (fun W (hb : Below w.heap.size w W) => names_any g S hS (foundS S p).1 W (h.below (VS.fr g S) hb) (by omega))
  have hR : listS S p = if (foundS S p).2 ≠ 0 then ([], (foundS S p).2) else if kindM S.m (foundS S p).1 = 1 then ([], 11) else (namesM S.m (foundS S p).1, 0) := rfl
  unfold AbsPost at HA
  obtain ⟨q, hq⟩ : ∃ q, (foundS S p).1 = q := ⟨_, rfl⟩
  obtain ⟨e, he⟩ : ∃ q, (foundS S p).2 = q := ⟨_, rfl⟩
  rw [hq] at HA HK HNM hR hl
  rw [he] at HA hR
  obtain ⟨y, hy⟩ : ∃ y, kindM S.m q = y := ⟨_, rfl⟩
  rw [hy] at HK hR
  have HR := hide hR
  clear hR hq he hy h hm
  by_cases c1 : e = 0
  case neg =>
    obtain ⟨t1, t2⟩ := ne0 c1
    have HE := hide (HR.out.trans (if_pos c1))
    clear c1
    go_enter Tryz.func84, Tryz.ntmps84
    go_wp2_with fail
    refine HA.out.mono ?_
    rintro e w1 ⟨rfl, hb⟩
    have HB := hide hb
    clear hb
    go_wp2
    go_ret2
    unfold ListPost
    rw [HE.out]
    exact ⟨⟨_, rfl, OwnS.nil _ _⟩, HB.out⟩
  subst c1
  have hRQ := HR.out.trans (if_neg (by simp))
  by_cases c2 : y = 1
  · subst c2
    have HE := hide (hRQ.trans (if_pos rfl))
    clear hRQ
    go_enter Tryz.func84, Tryz.ntmps84
    go_wp2_with fail
    refine HA.out.mono ?_
    rintro e w1 ⟨rfl, hb⟩
    have HB := hide hb
    clear hb
    go_wp2_with fail
    refine (HK.out w1 HB.out).mono ?_
    rintro e w2 ⟨rfl, hb⟩
    have HB2 := hide (below_up HB.out hb HB.out.size)
    clear hb
    go_wp2
    go_ret2
    unfold ListPost
    rw [HE.out]
    exact ⟨⟨_, rfl, OwnS.nil _ _⟩, HB2.out⟩
  · have c2' : ((y : Int) == 1) = false := by simp; omega
    have HE := hide (hRQ.trans (if_neg c2))
    clear hRQ c2
    go_enter Tryz.func84, Tryz.ntmps84
    go_wp2_with fail
    refine HA.out.mono ?_
    rintro e w1 ⟨rfl, hb⟩
    have HB := hide hb
    clear hb
    go_wp2_with fail
    refine (HK.out w1 HB.out).mono ?_
    rintro e w2 ⟨rfl, hb⟩
    have HB2 := hide (below_up HB.out hb HB.out.size)
    clear hb
    go_wp2_with fail
    refine (HNM.out w2 HB2.out).mono ?_
    rintro e w3 ⟨⟨v, rfl, ho⟩, hb⟩
    have HB3 := hide (below_up HB2.out hb HB2.out.size)
    have HO := hide (ho.base HB2.out.size)
    clear hb ho
    go_wp2
    go_ret2
    unfold ListPost
    rw [HE.out]
    exact ⟨⟨_, rfl, HO.out⟩, HB3.out⟩
end Go.Proofs.YtkajhdbcnmafcaaGreatDoor
