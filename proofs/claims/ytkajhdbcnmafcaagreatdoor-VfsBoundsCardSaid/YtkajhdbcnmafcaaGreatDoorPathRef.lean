/- Walks of the reference's Begins, names, Parts, Write, Abs, Dir, Base, Within. Walks of the reference's Dir, Base, Within. -/
import Derived.Test.YtkajhdbcnmafcaaGreatDoorPathWalkA
import Derived.Test.YtkajhdbcnmafcaaGreatDoorRefAt
import Derived.IntWalk
import Derived.Deep.LoopGhost
namespace Go.Proofs.YtkajhdbcnmafcaaGreatDoor
open Go.RowKit Go.Deep Ln Pth
set_option linter.unusedSimpArgs false
set_option linter.unusedVariables false
attribute [local go_sem] bt_eq

theorem rbegins_eq (s x : ByteArray) (h : x.size ≤ s.size) : ((s.extract 0 x.size).toList == x.toList) = Lib.hasPrefix s.data.toList x.data.toList := by
  rw [← Lib.hasPrefix_of_take, Lib.toList_data, Lib.toList_data, Lib.extract_data]
  have h1 : x.data.toList.length ≤ s.data.toList.length := by simpa using h
  rw [decide_eq_true h1, Bool.true_and, List.drop_zero, Nat.sub_zero]
  have : x.data.toList.length = x.size := by simp
  rw [this]
theorem rbegins_no (s x : ByteArray) (h : ¬ x.size ≤ s.size) : Lib.hasPrefix s.data.toList x.data.toList = false := by
  rw [← Lib.hasPrefix_of_take]
  have h1 : ¬ x.data.toList.length ≤ s.data.toList.length := by simpa using h
  rw [decide_eq_false h1, Bool.false_and]
theorem retB {a b : Bool} (h : a = b) : Ending.returned (.bool a) = .returned (.bool b) := by rw [h]
set_option maxRecDepth 100000 in
set_option maxHeartbeats 400000 in
theorem rbegins_any (s x : ByteArray) (w : World) : Calls Tryz.prog 103 #[.string s, .string x] w fun e w' => e = .returned (.bool (Lib.hasPrefix s.data.toList x.data.toList)) ∧ w = w' := by
  by_cases h : x.size ≤ s.size
  · have HE := hide (rbegins_eq s x h)
    have hd : decide (x.size ≤ s.size) = true := by simpa using h
    have hi : (x.size : Int) ≤ (s.size : Int) := by omega
    go_enter Tryz.func103, Tryz.ntmps103
    go_wp2
    go_ret
    exact ⟨retB (by rw [← HE.out]), rfl⟩
  · have HE := hide (rbegins_no s x h)
    have hd : decide (x.size ≤ s.size) = false := by simpa using h
    go_enter Tryz.func103, Tryz.ntmps103
    go_wp2
    go_ret
    exact ⟨retB (by rw [HE.out]), rfl⟩
/-- the names of a path, behind others -/
def namesP (l : List T) (p : T) : List T := (spl 47 p).foldl stepP l
theorem parts_names (cwd p : T) : partsF cwd p = namesP (if p.head? = some 47 then [] else namesP [] cwd) p := by
  unfold partsF namesP
  split
  · rfl
  · rw [List.foldl_append]
theorem stepP_len (K : List T) (s : T) : (stepP K s).length ≤ K.length + 1 := by
  unfold stepP
  split
  · omega
  · split
    · rw [List.length_dropLast]; omega
    · simp
theorem dropT {p : T} {a i : Nat} (ha : a ≤ i) (hi : i < p.length) : p.drop a = (p.drop a).take (i - a) ++ p[i] :: p.drop (i + 1) := by
  conv => lhs; rw [← List.take_append_drop (i - a) (p.drop a)]
  rw [List.drop_drop, show a + (i - a) = i by omega, List.drop_eq_getElem_cons hi]
theorem takeT {p : T} {a i : Nat} (ha : a ≤ i) (hi : i < p.length) : (p.drop a).take (i + 1 - a) = (p.drop a).take (i - a) ++ [p[i]] := by
  rw [show i + 1 - a = (i - a) + 1 by omega, List.take_add_one, List.getElem?_drop, show a + (i - a) = i by omega, List.getElem?_eq_getElem hi]
  rfl
theorem below_gbX {B : Nat} {w wr w4 : World} {A : Option Addr} {k c : Nat} {L : List ByteArray} {o : Obj} (hb : Below B w wr) (g4 : (wr.alloc o).grownBy w4 (Value.slice A k c).ownBlock) (ho : OwnS wr B (.slice A k c) L) (hB : B ≤ wr.heap.size) : Below B w w4 := by
  have h1 := hb.alloc hB o
  exact h1.grown g4 (by simp; omega) (fun q hq => (World.ownsRow.lt ho q hq).1)
set_option maxRecDepth 100000 in
set_option maxHeartbeats 8000000 in
theorem rnames_any (B : Nat) (v : Value) (L : List T) (p : T) (w : World) (hv : OwnS w B v (L.map bs)) (hB : B ≤ w.heap.size) (hl : L.length ≤ 200000) (hp : p.length ≤ 100000) :
    Calls Tryz.prog 118 #[v, .string (bs p)] w fun e w' => (∃ v', e = .returned v' ∧ OwnS w' B v' ((namesP L p).map bs)) ∧ Below B w w' := by
  have HV := hide hv
  obtain ⟨R, hR⟩ : ∃ R, namesP L p = R := ⟨_, rfl⟩
  rw [hR]
  have ztx := bs_size p
  obtain ⟨n, hn⟩ : ∃ n, p.length = n := ⟨_, rfl⟩
  rw [hn] at ztx hp
  have HN := hide hn
  have HR := hide (show namesP L p = R from hR)
  have hni : (n : Int) ≤ 100000 := by omega
  obtain ⟨A0, c0, e0, _, _, _⟩ := hv.slice
  subst e0
  clear hv hR hn
  go_enter Tryz.func118, Tryz.ntmps118
  go_wp2
  go_loopw [0, 5, 6, 7] (fun v0 v5 v6 _ wr => ∃ (i a : Nat) (K : List T), v5 = .int .i64 a ∧ v6 = .int .i64 i ∧ i ≤ n + 1 ∧ a ≤ i ∧ OwnS wr B v0 (K.map bs) ∧ Hid (i ≤ n → 47 ∉ (p.drop a).take (i - a)) ∧ Hid ((if i ≤ n then (spl 47 (p.drop a)).foldl stepP K else K) = R) ∧ K.length ≤ L.length + i ∧ Below B w wr) (fun _ _ v6 _ _ => n + 1 - (intOf v6).toNat)
  case atStart => exact ⟨0, 0, L, rfl, rfl, by omega, Nat.le_refl _, HV.out, (fun _ => by simp), (by rw [if_pos (Nat.zero_le _), List.drop_zero]; exact HR.out), by omega, Below.refl _ _⟩
  case round =>
    obtain ⟨i, a, K, rfl, rfl, hi, ha, hown, HNO, HF, hkl, hbl⟩ := hrel
    have HB := hide hbl
    have HO := hide hown
    obtain ⟨Ak, ck, ek, _, _, _⟩ := hown.slice
    subst ek
    have hbs : B ≤ wr.heap.size := by have := hbl.size; omega
    clear hown hbl
    by_cases hin : i ≤ n
    case neg =>
      have d1 : decide ((i : Int) ≤ (n : Int)) = false := by simp; omega
      have d1' : decide (i ≤ n) = false := by simp; omega
      have HE := hide (show K = R by have := HF.out; rwa [if_neg hin] at this)
      clear hin
      go_wp2
      go_ret
      refine ⟨⟨_, rfl, ?_⟩, HB.out⟩
      rw [← HE.out]
      exact HO.out
    have d1 : decide ((i : Int) ≤ (n : Int)) = true := by simp; omega
    have d1' : decide (i ≤ n) = true := by simp; omega
    have hno := HNO.out hin
    have hf := HF.out
    rw [if_pos hin] at hf
    obtain ⟨s, hs⟩ : ∃ s, (p.drop a).take (i - a) = s := ⟨_, rfl⟩
    have hex : (bs p).extract a i = bs s := by rw [ext_bs, hs]
    have hai : (a : Int) ≤ (i : Int) := by omega
    have hii : (i : Int) ≤ (n : Int) := by omega
    rw [hs] at hno
    have hkm : (K.map bs).length = K.length := List.length_map _
    rw [hkm] at HO ⊢
    have HKM := hide hkm
    obtain ⟨kn, hkn⟩ : ∃ k, K.length = k := ⟨_, rfl⟩
    have HKN := hide hkn
    rw [hkn] at HO hkl ⊢
    clear hkm hkn
    by_cases hlt : i < n
    · obtain ⟨ch, hch⟩ : ∃ x, p[i]'(by have := HN.out; omega) = x := ⟨_, rfl⟩
      have hbt : bt (bs p) i = ch.toNat := by
        unfold bt bs
        simp [← hch, HN.out, hlt]
      have d2 : decide ((i : Int) < (n : Int)) = true := by simp; omega
      have d2' : decide (i < n) = true := by simp; omega
      have htk := takeT (p := p) ha (by have := HN.out; omega)
      have hdr := dropT (p := p) ha (by have := HN.out; omega)
      rw [hch, hs] at htk hdr
      by_cases h47 : ch = 47
      case neg =>
        have h47n : ¬ ch.toNat = 47 := fun e => h47 (UInt8.toNat_inj.1 e)
        have d3 : (((ch.toNat : Nat) : Int) != 47) = true := by simp; omega
        have HNO2 := hide (show 47 ∉ (p.drop a).take (i + 1 - a) by
          rw [htk]
          intro h
          rcases List.mem_append.1 h with h | h
          · exact hno h
          · exact h47 (List.mem_singleton.1 h).symm)
        obtain ⟨cn, hcn⟩ : ∃ c, ch.toNat = c := ⟨_, rfl⟩
        rw [hcn] at hbt d3 h47n
        clear htk hdr hno hf hs hex h47 hch hcn
        go_wp2
        go_roundw
        case rel => exact ⟨i + 1, a, K, rfl, by go_num, by omega, by omega, HO.out, (fun _ => HNO2.out), (by rw [if_pos (by omega)]; have := HF.out; rwa [if_pos hin] at this), (by have := HKN.out; omega), HB.out⟩
        case measure => simp [intOf] <;> omega
      subst h47
      have d3 : (((47 : UInt8).toNat : Nat) : Int) = 47 := rfl
      rw [hdr, spl_app _ hno, List.foldl_cons] at hf
      have HF2 := hide (show (if i + 1 ≤ n then (spl 47 (p.drop (i + 1))).foldl stepP (stepP K s) else stepP K s) = R by rw [if_pos (by omega)]; exact hf)
      rw [show (47 : UInt8).toNat = 47 from rfl] at hbt
      clear htk hdr hno hf hs hch d3
      by_cases s0 : s = []
      · have e0 : (bs s).toList.isEmpty = true := by rw [bs_toList, s0]; rfl
        have HST := hide (show stepP K s = K by rw [s0, stepP_nil])
        clear s0
        go_wp2
        go_roundw
        case rel => exact ⟨i + 1, i + 1, stepP K s, by go_num, by go_num, by omega, Nat.le_refl _, (by rw [HST.out]; exact HO.out), (fun _ => by simp), HF2.out, (by have := stepP_len K s; have := HKN.out; omega), HB.out⟩
        case measure => simp [intOf] <;> omega
      have e0 : (bs s).toList.isEmpty = false := by rw [bs_toList]; cases s with | nil => exact absurd rfl s0 | cons _ _ => rfl
      by_cases s1 : s = [46]
      · have e1 : ((bs s).toList == [46]) = true := by rw [bs_toList, s1]; rfl
        have HST := hide (show stepP K s = K by rw [stepP, if_pos (.inr s1)])
        clear s0 s1
        go_wp2
        go_roundw
        case rel => exact ⟨i + 1, i + 1, stepP K s, by go_num, by go_num, by omega, Nat.le_refl _, (by rw [HST.out]; exact HO.out), (fun _ => by simp), HF2.out, (by have := stepP_len K s; have := HKN.out; omega), HB.out⟩
        case measure => simp [intOf] <;> omega
      have e1 : ((bs s).toList == [46]) = false := by rw [bs_toList]; simpa using s1
      by_cases s2 : s = [46, 46]
      · have e2 : ((bs s).toList == [46, 46]) = true := by rw [bs_toList, s2]; rfl
        have HST := hide (show stepP K s = K.dropLast by rw [stepP, if_neg (by rintro (h | h); exact s0 h; exact s1 h), if_pos s2])
        clear s0 s1 s2
        by_cases k0 : kn = 0
        · subst k0
          have HKE := hide (show K = [] from List.eq_nil_of_length_eq_zero HKN.out)
          go_wp2
          go_roundw
          case rel => exact ⟨i + 1, i + 1, stepP K s, by go_num, by go_num, by omega, Nat.le_refl _, (by rw [HST.out, HKE.out]; have := HO.out; rw [HKE.out] at this; exact this), (fun _ => by simp), HF2.out, (by have := stepP_len K s; have := HKN.out; omega), HB.out⟩
          case measure => simp [intOf] <;> omega
        · have k1 : decide ((0 : Int) < (kn : Int)) = true := by simp; omega
          have k1' : decide (0 < kn) = true := by simp; omega
          obtain ⟨km, rfl⟩ : ∃ k, kn = k + 1 := ⟨kn - 1, by omega⟩
          have hcap : km + 1 ≤ ck := by
            obtain ⟨A9, c9, e9, l9, _, _⟩ := HO.out.slice
            have := HKN.out
            rw [List.length_map] at e9 l9
            injection e9 with _ _ e9
            omega
          have hcapi : (km : Int) ≤ (ck : Int) := by omega
          have hwr : IntKind.i64.wrap ((km : Int) + 1 - 1) = (km : Int) := by rw [show (km : Int) + 1 - 1 = (km : Int) by omega]; exact IntWalk.i64_in _ (by omega)
          have hwr2 : IntKind.i64.wrap (km : Int) = (km : Int) := IntWalk.i64_in _ (by omega)
          have HOD := hide (show OwnS wr B (.slice Ak km ck) (K.dropLast.map bs) from by
            have := OwnS.take HO.out (k := km) (by rw [List.length_map, HKN.out]; omega)
            rw [← List.map_take] at this
            rw [List.dropLast_eq_take, HKN.out]
            exact this)
          have hdl : (K.dropLast.map bs).length = km := by rw [List.length_map, List.length_dropLast, HKN.out]; rfl
          have HDL := hide hdl
          clear k0 hdl hcap
          go_wp2
          go_roundw
          case rel => exact ⟨i + 1, i + 1, stepP K s, by go_num, by go_num, by omega, Nat.le_refl _, (by rw [HST.out]; exact HOD.out), (fun _ => by simp), HF2.out, (by have := stepP_len K s; have := HKN.out; omega), HB.out⟩
          case measure => simp [intOf] <;> omega
      have e2 : ((bs s).toList == [46, 46]) = false := by rw [bs_toList]; simpa using s2
      have HST := hide (show stepP K s = K ++ [s] by rw [stepP, if_neg (by rintro (h | h); exact s0 h; exact s1 h), if_neg s2])
      obtain ⟨v4, w4, r4, o4, g4, b4⟩ := run_appS (c := 1) (OwnS.alloc HO.out (.cells #[.string (bs s)] 9)) (sr_new wr (bs s)) (by simp; omega) (by have := HKN.out; simp; omega)
      have HO4 := hide (show OwnS w4 B v4 ((K ++ [s]).map bs) by rw [List.map_append]; exact o4)
      have HB4 := hide (below_gbX HB.out g4 HO.out hbs)
      obtain ⟨A4, c4, e4, _, _, _⟩ := o4.slice
      have hl4 : (K.map bs ++ [bs s]).length = kn + 1 := by rw [List.length_append, HKM.out, HKN.out]; rfl
      rw [hl4] at e4
      subst e4
      clear s0 s1 s2 o4 g4 b4 hl4
      go_wp2_with (at_builtin; refine wpList_app_run ?_ (.tmp 30) (.tmp 32) ?_ ?_ ?_ ?_ r4 ?_; exact rfl; exact rfl; exact rfl; exact rfl; exact rfl)
      go_roundw
      case rel => exact ⟨i + 1, i + 1, stepP K s, by go_num, by go_num, by omega, Nat.le_refl _, (by rw [HST.out]; exact HO4.out), (fun _ => by simp), HF2.out, (by have := stepP_len K s; have := HKN.out; omega), HB4.out⟩
      case measure => simp [intOf] <;> omega
    · have d2 : decide ((i : Int) < (n : Int)) = false := by simp; omega
      have d2' : decide (i < n) = false := by simp; omega
      obtain rfl : n = i := by omega
      have hsd : p.drop a = s := by rw [← hs, List.take_of_length_le (by have := HN.out; rw [List.length_drop]; omega)]
      rw [hsd, spl_none hno] at hf
      have HF2 := hide (show (if n + 1 ≤ n then (spl 47 (p.drop (n + 1))).foldl stepP (stepP K s) else stepP K s) = R by rw [if_neg (by omega)]; exact hf)
      clear hno hf hs hsd
      by_cases s0 : s = []
      · have e0 : (bs s).toList.isEmpty = true := by rw [bs_toList, s0]; rfl
        have HST := hide (show stepP K s = K by rw [s0, stepP_nil])
        clear s0
        go_wp2
        go_roundw
        case rel => exact ⟨n + 1, n + 1, stepP K s, by go_num, by go_num, by omega, Nat.le_refl _, (by rw [HST.out]; exact HO.out), (fun _ => by simp), HF2.out, (by have := stepP_len K s; have := HKN.out; omega), HB.out⟩
        case measure => simp [intOf] <;> omega
      have e0 : (bs s).toList.isEmpty = false := by rw [bs_toList]; cases s with | nil => exact absurd rfl s0 | cons _ _ => rfl
      by_cases s1 : s = [46]
      · have e1 : ((bs s).toList == [46]) = true := by rw [bs_toList, s1]; rfl
        have HST := hide (show stepP K s = K by rw [stepP, if_pos (.inr s1)])
        clear s0 s1
        go_wp2
        go_roundw
        case rel => exact ⟨n + 1, n + 1, stepP K s, by go_num, by go_num, by omega, Nat.le_refl _, (by rw [HST.out]; exact HO.out), (fun _ => by simp), HF2.out, (by have := stepP_len K s; have := HKN.out; omega), HB.out⟩
        case measure => simp [intOf] <;> omega
      have e1 : ((bs s).toList == [46]) = false := by rw [bs_toList]; simpa using s1
      by_cases s2 : s = [46, 46]
      · have e2 : ((bs s).toList == [46, 46]) = true := by rw [bs_toList, s2]; rfl
        have HST := hide (show stepP K s = K.dropLast by rw [stepP, if_neg (by rintro (h | h); exact s0 h; exact s1 h), if_pos s2])
        clear s0 s1 s2
        by_cases k0 : kn = 0
        · subst k0
          have HKE := hide (show K = [] from List.eq_nil_of_length_eq_zero HKN.out)
          go_wp2
          go_roundw
          case rel => exact ⟨n + 1, n + 1, stepP K s, by go_num, by go_num, by omega, Nat.le_refl _, (by rw [HST.out, HKE.out]; have := HO.out; rw [HKE.out] at this; exact this), (fun _ => by simp), HF2.out, (by have := stepP_len K s; have := HKN.out; omega), HB.out⟩
          case measure => simp [intOf] <;> omega
        · have k1 : decide ((0 : Int) < (kn : Int)) = true := by simp; omega
          have k1' : decide (0 < kn) = true := by simp; omega
          obtain ⟨km, rfl⟩ : ∃ k, kn = k + 1 := ⟨kn - 1, by omega⟩
          have hcap : km + 1 ≤ ck := by
            obtain ⟨A9, c9, e9, l9, _, _⟩ := HO.out.slice
            have := HKN.out
            rw [List.length_map] at e9 l9
            injection e9 with _ _ e9
            omega
          have hcapi : (km : Int) ≤ (ck : Int) := by omega
          have hwr : IntKind.i64.wrap ((km : Int) + 1 - 1) = (km : Int) := by rw [show (km : Int) + 1 - 1 = (km : Int) by omega]; exact IntWalk.i64_in _ (by omega)
          have hwr2 : IntKind.i64.wrap (km : Int) = (km : Int) := IntWalk.i64_in _ (by omega)
          have HOD := hide (show OwnS wr B (.slice Ak km ck) (K.dropLast.map bs) from by
            have := OwnS.take HO.out (k := km) (by rw [List.length_map, HKN.out]; omega)
            rw [← List.map_take] at this
            rw [List.dropLast_eq_take, HKN.out]
            exact this)
          have hdl : (K.dropLast.map bs).length = km := by rw [List.length_map, List.length_dropLast, HKN.out]; rfl
          have HDL := hide hdl
          clear k0 hdl hcap
          go_wp2
          go_roundw
          case rel => exact ⟨n + 1, n + 1, stepP K s, by go_num, by go_num, by omega, Nat.le_refl _, (by rw [HST.out]; exact HOD.out), (fun _ => by simp), HF2.out, (by have := stepP_len K s; have := HKN.out; omega), HB.out⟩
          case measure => simp [intOf] <;> omega
      have e2 : ((bs s).toList == [46, 46]) = false := by rw [bs_toList]; simpa using s2
      have HST := hide (show stepP K s = K ++ [s] by rw [stepP, if_neg (by rintro (h | h); exact s0 h; exact s1 h), if_neg s2])
      obtain ⟨v4, w4, r4, o4, g4, b4⟩ := run_appS (c := 1) (OwnS.alloc HO.out (.cells #[.string (bs s)] 9)) (sr_new wr (bs s)) (by simp; omega) (by have := HKN.out; simp; omega)
      have HO4 := hide (show OwnS w4 B v4 ((K ++ [s]).map bs) by rw [List.map_append]; exact o4)
      have HB4 := hide (below_gbX HB.out g4 HO.out hbs)
      obtain ⟨A4, c4, e4, _, _, _⟩ := o4.slice
      have hl4 : (K.map bs ++ [bs s]).length = kn + 1 := by rw [List.length_append, HKM.out, HKN.out]; rfl
      rw [hl4] at e4
      subst e4
      clear s0 s1 s2 o4 g4 b4 hl4
      go_wp2_with (at_builtin; refine wpList_app_run ?_ (.tmp 30) (.tmp 32) ?_ ?_ ?_ ?_ r4 ?_; exact rfl; exact rfl; exact rfl; exact rfl; exact rfl)
      go_roundw
      case rel => exact ⟨n + 1, n + 1, stepP K s, by go_num, by go_num, by omega, Nat.le_refl _, (by rw [HST.out]; exact HO4.out), (fun _ => by simp), HF2.out, (by have := stepP_len K s; have := HKN.out; omega), HB4.out⟩
      case measure => simp [intOf] <;> omega
theorem namesP_len (L : List T) (p : T) : (namesP L p).length ≤ L.length + (p.length + 1) := Nat.le_trans (foldl_len _ _) (by have := spl_len 47 p; omega)
set_option maxRecDepth 100000 in
set_option maxHeartbeats 1000000 in
theorem rparts_any (cwd p : T) (w : World) (h1 : cwd.length ≤ 100000) (h2 : p.length ≤ 100000) :
    Calls Tryz.prog 67 #[.string (bs cwd), .string (bs p)] w fun e w' => (∃ v, e = .returned v ∧ OwnS w' w.heap.size v ((partsF cwd p).map bs)) ∧ Below w.heap.size w w' := by
  have hpf := rbegins_any (bs p) ⟨#[47]⟩
  rw [show (⟨#[47]⟩ : ByteArray).data.toList = [47] from rfl, pre_slash] at hpf
  have hR := parts_names cwd p
  by_cases hc : p.head? = some 47
  · rw [decide_eq_true hc] at hpf
    rw [if_pos hc] at hR
    have HPF := hide hpf
    have HNM := hide (rnames_any w.heap.size (.slice none 0 0) [] p w (OwnS.nil _ _) (Nat.le_refl _) (by simp) h2)
    rw [← hR] at HNM
    clear hpf hR hc
    go_enter Tryz.func67, Tryz.ntmps67
    go_wp2_with fail
    refine (HPF.out w).mono ?_
    rintro e w' ⟨rfl, rfl⟩
    go_wp2_with fail
    refine HNM.out.mono ?_
    rintro e w2 ⟨⟨v, rfl, ho⟩, hb⟩
    have HO := hide ho
    have HB := hide hb
    clear ho hb
    go_wp2
    go_ret
    exact ⟨⟨_, rfl, HO.out⟩, HB.out⟩
  · rw [decide_eq_false hc] at hpf
    rw [if_neg hc] at hR
    have HPF := hide hpf
    have HNM := hide (rnames_any w.heap.size (.slice none 0 0) [] cwd w (OwnS.nil _ _) (Nat.le_refl _) (by simp) h1)
    have hnl := namesP_len [] cwd
    have HNN := hide (fun (W : World) (v : Value) (hv : OwnS W w.heap.size v ((namesP [] cwd).map bs)) (hs : w.heap.size ≤ W.heap.size) => rnames_any w.heap.size v (namesP [] cwd) p W hv hs (by simp at hnl; omega) h2)
    rw [← hR] at HNN
    clear hpf hR hc hnl
    go_enter Tryz.func67, Tryz.ntmps67
    go_wp2_with fail
    refine (HPF.out w).mono ?_
    rintro e w' ⟨rfl, rfl⟩
    go_wp2_with fail
    refine HNM.out.mono ?_
    rintro e w2 ⟨⟨v, rfl, ho⟩, hb⟩
    have HN2 := hide (HNN.out w2 v ho hb.size)
    have HB := hide hb
    clear ho hb
    go_wp2_with fail
    refine HN2.out.mono ?_
    rintro e w3 ⟨⟨v3, rfl, ho⟩, hb3⟩
    have HO := hide ho
    have HB3 := hide (HB.out.trans hb3)
    clear ho hb3
    go_wp2
    go_ret
    exact ⟨⟨_, rfl, HO.out⟩, HB3.out⟩
theorem slashed_take {L : List T} {k : Nat} {s : T} (h : L[k]? = some s) : slashed (L.take (k + 1)) = slashed (L.take k) ++ 47 :: s := by
  rw [List.take_add_one, h, slashed_app]
  simp [slashed]
theorem slashed_take_len (L : List T) (k : Nat) : (slashed (L.take k)).length ≤ (slashed L).length := by
  conv => rhs; rw [← List.take_append_drop k L, slashed_app, List.length_append]
  omega
set_option maxRecDepth 100000 in
set_option maxHeartbeats 1000000 in
theorem rwrite_any (A : Option Addr) (c : Nat) (L : List T) (w : World) (hA : SR w A (L.map bs)) (hl : (slashed L).length ≤ 900000) (hll : L.length ≤ 900000) :
    Calls Tryz.prog 68 #[.slice A L.length c] w fun e w' => e = .returned (.string (bs (joinF L))) ∧ w = w' := by
  have HA := hide hA
  have HL := hide hl
  obtain ⟨n, hn⟩ : ∃ n, L.length = n := ⟨_, rfl⟩
  rw [hn] at hll ⊢
  have HN := hide hn
  have hni : (n : Int) ≤ 900000 := by omega
  clear hA hl hn
  go_enter Tryz.func68, Tryz.ntmps68
  go_wp2
  go_loopw [3, 4] (fun v3 v4 wr => ∃ k : Nat, v4 = .int .i64 k ∧ k ≤ n ∧ v3 = .string (bs (slashed (L.take k))) ∧ w = wr) (fun _ v4 _ => n - (intOf v4).toNat)
  case atStart => exact ⟨0, rfl, by omega, by simp [slashed, bs], rfl⟩
  case round =>
    obtain ⟨k, rfl, hk, rfl, rfl⟩ := hrel
    by_cases hlt : k < n
    · obtain ⟨x, hx⟩ : ∃ x, L[k]? = some x := ⟨L[k]'(by have := HN.out; omega), List.getElem?_eq_getElem _⟩
      obtain ⟨g, o, rfl, hg, hc⟩ := HA.out k (bs x) (by simp [hx])
      have b1 : (k : Int) < (n : Int) := by omega
      have h1 := slashed_take_len L (k + 1)
      have h2 := slashed_take hx
      rw [h2, List.length_append, List.length_cons] at h1
      have h3 := HL.out
      have hz1 := bs_size (slashed (L.take k))
      have hz2 := bs_size x
      obtain ⟨P, hP⟩ : ∃ P, bs (slashed (L.take k)) = P := ⟨_, rfl⟩
      obtain ⟨Q, hQ⟩ : ∃ Q, bs x = Q := ⟨_, rfl⟩
      have HE := hide (show P ++ ⟨#[47]⟩ ++ Q = bs (slashed (L.take (k + 1))) by rw [← hP, ← hQ, h2, show (⟨#[47]⟩ : ByteArray) = bs [47] from rfl, bs_app, bs_app]; simp)
      rw [hP] at hz1 ⊢
      rw [hQ] at hz2 hc
      have hzp : P.size ≤ 900000 := by omega
      have hzs : (P ++ ⟨#[47]⟩).size = P.size + 1 := by rw [ByteArray.size_append]; rfl
      have hzq : P.size + 1 + Q.size ≤ 900000 := by omega
      have hzr : (P ++ ⟨#[47]⟩).size + Q.size ≤ 900000 := by omega
      clear hx h1 h2 h3 hP hQ hz1 hz2
      go_wp2
      go_roundw
      case rel => exact ⟨k + 1, by go_num, by omega, by rw [HE.out], trivial⟩
      case measure => simp [intOf]; omega
    · obtain rfl : n = k := by omega
      have htk : L.take n = L := List.take_of_length_le (by have := HN.out; omega)
      rw [htk]
      by_cases h0 : L = []
      · have e0 : (bs (slashed L)).toList.isEmpty = true := by rw [bs_toList, h0]; rfl
        have HE := hide (show bs (joinF L) = ⟨#[47]⟩ by rw [joinF, if_pos h0]; rfl)
        clear h0 htk
        go_wp2
        go_ret
        rw [HE.out]
        exact ⟨rfl, rfl⟩
      · have e0 : (bs (slashed L)).toList.isEmpty = false := by
          rw [bs_toList]
          have := slashed_ne h0
          cases hs : slashed L with
          | nil => exact absurd hs this
          | cons _ _ => rfl
        have HE := hide (show bs (joinF L) = bs (slashed L) by rw [joinF, if_neg h0])
        obtain ⟨P, hP⟩ : ∃ P, bs (slashed L) = P := ⟨_, rfl⟩
        rw [hP] at e0 HE ⊢
        clear h0 htk hP
        go_wp2
        go_ret
        rw [HE.out]
        exact ⟨rfl, rfl⟩
set_option maxRecDepth 100000 in
set_option maxHeartbeats 2000000 in
theorem rabs_any (cwd p : T) (w : World) (h1 : cwd.length ≤ 100000) (h2 : p.length ≤ 100000) :
    Calls Tryz.prog 27 #[.string (bs cwd), .string (bs p)] w (AbsPost (absF cwd p) w) := by
  have HC0 := hide (fun W => rat0_any cwd 0 W (by omega))
  have HP0 := hide (fun W => rat0_any p 0 W (by omega))
  have HPA := hide (fun W => rparts_any cwd p W h1 h2)
  have g1 := ixb_ge 0 cwd
  have g2 := ixb_ge 0 p
  have m1 := ixb_mem 0 cwd
  have m2 := ixb_mem 0 p
  obtain ⟨ic, hic⟩ : ∃ i, Lib.indexByte cwd 0 = i := ⟨_, rfl⟩
  obtain ⟨ip, hip⟩ : ∃ i, Lib.indexByte p 0 = i := ⟨_, rfl⟩
  rw [hic] at HC0 m1 g1
  rw [hip] at HP0 m2 g2
  have HM1 := hide m1
  have HM2 := hide m2
  clear hic hip m1 m2
  by_cases c1 : p = []
  · subst c1
    have hem : (bs ([] : T)).toList.isEmpty = true := by rw [bs_toList]; rfl
    have HR := hide (show absF cwd [] = ([], 1) from if_pos (.inl rfl))
    go_enter Tryz.func27, Tryz.ntmps27
    go_wp2
    go_ret2
    unfold AbsPost
    rw [HR.out]
    exact ⟨rfl, Below.refl _ _⟩
  have hem : (bs p).toList.isEmpty = false := by rw [bs_toList]; cases p; exact absurd rfl c1; rfl
  by_cases c3 : 0 ≤ ip
  · have HR := hide (show absF cwd p = ([], 1) from if_pos (.inr (.inr (HM2.out.1 c3))))
    go_enter Tryz.func27, Tryz.ntmps27
    go_wp2_with fail
    refine (HP0.out _).mono ?_
    rintro e w' ⟨rfl, rfl⟩
    go_wp2
    go_ret2
    unfold AbsPost
    rw [HR.out]
    exact ⟨rfl, Below.refl _ _⟩
  have d3 : decide (0 ≤ ip) = false := by simp; omega
  by_cases c2 : 0 ≤ ic
  · have d2 : decide (0 ≤ ic) = true := by simp; omega
    have HR := hide (show absF cwd p = ([], 1) from if_pos (.inr (.inl (HM1.out.1 c2))))
    clear c2 c3
    go_enter Tryz.func27, Tryz.ntmps27
    go_wp2_with fail
    refine (HP0.out _).mono ?_
    rintro e w' ⟨rfl, rfl⟩
    go_wp2_with fail
    refine (HC0.out _).mono ?_
    rintro e w' ⟨rfl, rfl⟩
    go_wp2
    go_ret2
    unfold AbsPost
    rw [HR.out]
    exact ⟨rfl, Below.refl _ _⟩
  have d2 : decide (0 ≤ ic) = false := by simp; omega
  have hR : absF cwd p = if longF (partsF cwd p) = false ∧ (partsF cwd p).length ≤ 20 ∧ (joinF (partsF cwd p)).length ≤ 200 then (joinF (partsF cwd p), 0) else ([], 3) := by
    unfold absF
    rw [if_neg (by rintro (h | h | h); exact c1 h; exact c2 (HM1.out.2 h); exact c3 (HM2.out.2 h))]
  have hpl := partsF_len cwd p
  have hjl := joinF_len cwd p
  obtain ⟨L, hL⟩ : ∃ L, partsF cwd p = L := ⟨_, rfl⟩
  rw [hL] at hR HPA hpl hjl
  have HR := hide hR
  have HJ := hide hjl
  clear c1 c2 c3 hL hR
  go_enter Tryz.func27, Tryz.ntmps27
  go_wp2_with fail
  refine (HP0.out _).mono ?_
  rintro e w' ⟨rfl, rfl⟩
  go_wp2_with fail
  refine (HC0.out _).mono ?_
  rintro e w' ⟨rfl, rfl⟩
  go_wp2_with fail
  refine (HPA.out w).mono ?_
  rintro e w1 ⟨⟨v, rfl, ho⟩, hb1⟩
  obtain ⟨A, c, rfl, hc, hsr, _⟩ := OwnS.slice ho
  have HA := hide hsr
  have HB1 := hide hb1
  have hsl : (slashed L).length ≤ 900000 := by
    have := hjl.1
    unfold joinF at this
    split at this
    · rename_i h; rw [h]; simp [slashed]
    · omega
  have HWR := hide (rwrite_any A c L w1 hsr hsl (by omega))
  rw [List.length_map] at hc ⊢
  obtain ⟨n, hn⟩ : ∃ n, L.length = n := ⟨_, rfl⟩
  rw [hn] at hc HWR hpl ⊢
  have HN := hide hn
  have hni : (n : Int) ≤ 900000 := by omega
  clear ho hb1 hsr hjl hsl hn
  go_wp2_with fail
  go_loopw [7] (fun v7 wr => ∃ k : Nat, v7 = .int .i64 k ∧ k ≤ n ∧ Hid (longF (L.take k) = false) ∧ w1 = wr) (fun v7 _ => n - (intOf v7).toNat)
  case atStart => exact ⟨0, rfl, by omega, rfl, rfl⟩
  case round =>
    obtain ⟨k, rfl, hk, HLG, rfl⟩ := hrel
    by_cases hlt : k < n
    · obtain ⟨x, hx⟩ : ∃ x, L[k]? = some x := ⟨L[k]'(by have := HN.out; omega), List.getElem?_eq_getElem _⟩
      obtain ⟨g, o, rfl, hg, hcx⟩ := HA.out k (bs x) (by simp [hx])
      have b1 : (k : Int) < (n : Int) := by omega
      have HX := hide hx
      have hzx := bs_size x
      obtain ⟨xn, hxn⟩ : ∃ m, x.length = m := ⟨_, rfl⟩
      rw [hxn] at hzx
      have hxl := HJ.out.2 x (List.mem_of_getElem? hx)
      rw [hxn] at hxl
      have hxi : (xn : Int) ≤ 900000 := by omega
      have HXN := hide hxn
      clear hx hxn
      by_cases c6 : 60 < xn
      · have d6 : decide ((60 : Int) < (xn : Int)) = true := by simp; omega
        have d6' : decide (60 < xn) = true := by simp; omega
        have HE := hide (show absF cwd p = ([], 3) by
          rw [HR.out, if_neg]
          rintro ⟨h, _⟩
          have := (longF_iff L).1 h x (List.mem_of_getElem? HX.out)
          have := HXN.out
          omega)
        clear c6
        go_wp2
        go_ret2
        unfold AbsPost
        rw [HE.out]
        exact ⟨rfl, HB1.out⟩
      · have d6 : decide ((60 : Int) < (xn : Int)) = false := by simp; omega
        have d6' : decide (60 < xn) = false := by simp; omega
        have HL2 := hide (show longF (L.take (k + 1)) = false by
          rw [longF_iff]
          intro s hs
          rw [List.take_add_one, HX.out] at hs
          rcases List.mem_append.1 hs with h | h
          · exact (longF_iff _).1 HLG.out s h
          · simp at h
            rw [h, HXN.out]; omega)
        clear c6
        go_wp2
        go_roundw
        case rel => exact ⟨k + 1, by go_num, by omega, HL2.out, trivial⟩
        case measure => simp [intOf]; omega
    · obtain rfl : n = k := by omega
      have HLL := hide (show longF L = false by
        have := HLG.out
        rwa [List.take_of_length_le (by have := HN.out; omega)] at this)
      obtain ⟨J, hJ⟩ : ∃ J, joinF L = J := ⟨_, rfl⟩
      rw [hJ] at HWR
      have hjs := HJ.out.1
      rw [hJ] at hjs
      have hzj := bs_size J
      obtain ⟨m, hm⟩ : ∃ m, J.length = m := ⟨_, rfl⟩
      rw [hm] at hzj hjs
      have HJM := hide (And.intro hJ hm)
      have hmi : (m : Int) ≤ 900000 := by omega
      have hnn : ¬ (n : Int) < (n : Int) := by omega
      clear hJ hm
      by_cases c7 : 20 < n
      · have d7 : decide ((20 : Int) < (n : Int)) = true := by simp; omega
        have d7' : decide (20 < n) = true := by simp; omega
        have HE := hide (show absF cwd p = ([], 3) by rw [HR.out, if_neg (by rintro ⟨_, h, _⟩; have := HN.out; omega)])
        clear c7
        go_wp2_with fail
        refine HWR.out.mono ?_
        rintro e w' ⟨rfl, rfl⟩
        go_wp2
        go_ret2
        unfold AbsPost
        rw [HE.out]
        exact ⟨rfl, HB1.out⟩
      have d7 : decide ((20 : Int) < (n : Int)) = false := by simp; omega
      have d7' : decide (20 < n) = false := by simp; omega
      by_cases c8 : 200 < m
      · have d8 : decide ((200 : Int) < (m : Int)) = true := by simp; omega
        have d8' : decide (200 < m) = true := by simp; omega
        have HE := hide (show absF cwd p = ([], 3) by rw [HR.out, if_neg (by rintro ⟨_, _, h⟩; rw [HJM.out.1, HJM.out.2] at h; omega)])
        clear c7 c8
        go_wp2_with fail
        refine HWR.out.mono ?_
        rintro e w' ⟨rfl, rfl⟩
        go_wp2
        go_ret2
        unfold AbsPost
        rw [HE.out]
        exact ⟨rfl, HB1.out⟩
      have d8 : decide ((200 : Int) < (m : Int)) = false := by simp; omega
      have d8' : decide (200 < m) = false := by simp; omega
      have HE := hide (show absF cwd p = (J, 0) by rw [HR.out, if_pos ⟨HLL.out, by have := HN.out; omega, by rw [HJM.out.1, HJM.out.2]; omega⟩, HJM.out.1])
      clear c7 c8
      go_wp2_with fail
      refine HWR.out.mono ?_
      rintro e w' ⟨rfl, rfl⟩
      go_wp2
      go_ret2
      unfold AbsPost
      rw [HE.out]
      exact ⟨rfl, HB1.out⟩
end Go.Proofs.YtkajhdbcnmafcaaGreatDoor
namespace Go.Proofs.YtkajhdbcnmafcaaGreatDoor
open Go.RowKit Go.Deep Ln Pth
set_option linter.unusedSimpArgs false
set_option linter.unusedVariables false
attribute [local go_sem] bt_eq

def dirF (p : T) : T := joinF (partsF [47] p).dropLast
def baseF (p : T) : T := ((partsF [47] p).getLast?).getD []
theorem slashed_le (cwd p : T) (k : Nat) : (slashed ((partsF cwd p).take k)).length ≤ cwd.length + p.length + 3 := by
  have h1 := (joinF_len cwd p).1
  have h2 := slashed_take_len (partsF cwd p) k
  unfold joinF at h1
  split at h1
  · rename_i h
    rw [h] at h2 ⊢
    simp [slashed] at h2 ⊢
  · omega
set_option maxRecDepth 100000 in
set_option maxHeartbeats 1000000 in
theorem rdir_any (p : T) (w : World) (h2 : p.length ≤ 100000) :
    Calls Tryz.prog 26 #[.string (bs p)] w fun e w' => e = .returned (.string (bs (dirF p))) ∧ Below w.heap.size w w' := by
  have HPA := hide (rparts_any [47] p w (by simp) h2)
  rw [show bs [47] = ⟨#[47]⟩ from rfl] at HPA
  have hpl := partsF_len [47] p
  have hsl := fun k => slashed_le [47] p k
  have hD : dirF p = joinF (partsF [47] p).dropLast := rfl
  obtain ⟨L, hL⟩ : ∃ L, partsF [47] p = L := ⟨_, rfl⟩
  rw [hL] at HPA hpl hD
  simp only [hL] at hsl
  have HD := hide hD
  have HSL := hide hsl
  clear hL hD hsl
  go_enter Tryz.func26, Tryz.ntmps26
  go_wp2_with fail
  refine HPA.out.mono ?_
  rintro e w1 ⟨⟨v, rfl, ho⟩, hb1⟩
  obtain ⟨A, c, rfl, hc, hsr, _⟩ := OwnS.slice ho
  have HA := hide hsr
  have HB1 := hide hb1
  rw [List.length_map] at hc ⊢
  have hpl2 : L.length ≤ 200000 := by simp at hpl; omega
  obtain ⟨n, hn⟩ : ∃ n, L.length = n := ⟨_, rfl⟩
  rw [hn] at hc hpl2 ⊢
  have HN := hide hn
  clear ho hb1 hsr hn hpl
  by_cases h0 : n = 0
  · subst h0
    have HE := hide (show dirF p = joinF L by rw [HD.out, List.eq_nil_of_length_eq_zero HN.out]; rfl)
    have hwr := rwrite_any A c L w1 HA.out (by have := HSL.out L.length; rw [List.take_length] at this; simp at this; omega) (by have := HN.out; omega)
    rw [HN.out] at hwr
    have HWR := hide hwr
    clear hwr
    go_wp2_with fail
    refine HWR.out.mono ?_
    rintro e w' ⟨rfl, rfl⟩
    go_wp2
    go_ret
    rw [HE.out]
    exact ⟨rfl, HB1.out⟩
  · obtain ⟨m, rfl⟩ : ∃ m, n = m + 1 := ⟨n - 1, by omega⟩
    have hmi : (m : Int) ≤ 200000 := by omega
    have hci : (m : Int) ≤ (c : Int) := by omega
    have hwr1 : IntKind.i64.wrap ((m : Int) + 1 - 1) = (m : Int) := by rw [show (m : Int) + 1 - 1 = (m : Int) by omega]; exact IntWalk.i64_in _ (by omega)
    have hwr2 : IntKind.i64.wrap (m : Int) = (m : Int) := IntWalk.i64_in _ (by omega)
    have hdl : L.dropLast = L.take m := by rw [List.dropLast_eq_take, HN.out]; rfl
    have hwr := rwrite_any A c L.dropLast w1 (by rw [hdl, List.map_take]; exact HA.out.take m) (by rw [hdl]; have := HSL.out m; simp at this; omega) (by rw [List.length_dropLast, HN.out]; omega)
    rw [show L.dropLast.length = m by rw [List.length_dropLast, HN.out]; rfl] at hwr
    have HWR := hide hwr
    have d0 : decide ((0 : Int) < (m : Int) + 1) = true := by simp <;> omega
    clear hwr hdl h0
    go_wp2_with fail
    refine HWR.out.mono ?_
    rintro e w' ⟨rfl, rfl⟩
    go_wp2
    go_ret
    rw [HD.out]
    exact ⟨rfl, HB1.out⟩
set_option maxRecDepth 100000 in
set_option maxHeartbeats 1000000 in
theorem rbase_any (p : T) (w : World) (h2 : p.length ≤ 100000) :
    Calls Tryz.prog 142 #[.string (bs p)] w fun e w' => e = .returned (.string (bs (baseF p))) ∧ Below w.heap.size w w' := by
  have HPA := hide (rparts_any [47] p w (by simp) h2)
  rw [show bs [47] = ⟨#[47]⟩ from rfl] at HPA
  have hpl := partsF_len [47] p
  have hD : baseF p = ((partsF [47] p).getLast?).getD [] := rfl
  obtain ⟨L, hL⟩ : ∃ L, partsF [47] p = L := ⟨_, rfl⟩
  rw [hL] at HPA hpl hD
  have HD := hide hD
  clear hL hD
  go_enter Tryz.func142, Tryz.ntmps142
  go_wp2_with fail
  refine HPA.out.mono ?_
  rintro e w1 ⟨⟨v, rfl, ho⟩, hb1⟩
  obtain ⟨A, c, rfl, hc, hsr, _⟩ := OwnS.slice ho
  have HA := hide hsr
  have HB1 := hide hb1
  rw [List.length_map] at hc ⊢
  have hpl2 : L.length ≤ 200000 := by simp at hpl; omega
  obtain ⟨n, hn⟩ : ∃ n, L.length = n := ⟨_, rfl⟩
  rw [hn] at hc hpl2 ⊢
  have HN := hide hn
  clear ho hb1 hsr hn hpl
  by_cases h0 : n = 0
  · subst h0
    have HE := hide (show bs (baseF p) = ⟨#[]⟩ by rw [HD.out, List.eq_nil_of_length_eq_zero HN.out]; rfl)
    go_wp2
    go_ret
    rw [HE.out]
    exact ⟨rfl, HB1.out⟩
  · obtain ⟨m, rfl⟩ : ∃ m, n = m + 1 := ⟨n - 1, by omega⟩
    have hmi : (m : Int) ≤ 200000 := by omega
    have hwr1 : IntKind.i64.wrap ((m : Int) + 1 - 1) = (m : Int) := by rw [show (m : Int) + 1 - 1 = (m : Int) by omega]; exact IntWalk.i64_in _ (by omega)
    have hwr2 : IntKind.i64.wrap (m : Int) = (m : Int) := IntWalk.i64_in _ (by omega)
    obtain ⟨x, hx⟩ : ∃ x, L[m]? = some x := ⟨L[m]'(by have := HN.out; omega), List.getElem?_eq_getElem _⟩
    obtain ⟨g, o, rfl, hg, hcx⟩ := HA.out m (bs x) (by simp [hx])
    have HE := hide (show baseF p = x by rw [HD.out, List.getLast?_eq_getElem?, HN.out]; simp [hx])
    have d0 : (((m : Int) + 1) == 0) = false := by simp <;> omega
    have hidx0 : (0 : Int) ≤ (m : Int) := by omega
    have hidx1 : (m : Int) < (m : Int) + 1 := by omega
    clear hx h0
    go_wp2
    go_ret
    rw [HE.out]
    exact ⟨rfl, HB1.out⟩
theorem map_bs_inj {a b : List T} : a.map bs = b.map bs ↔ a = b := by
  constructor
  · intro h
    have := congrArg (List.map (fun s : ByteArray => s.data.toList)) h
    simpa [List.map_map, Function.comp_def, bs_list] using this
  · rintro rfl; rfl
set_option maxRecDepth 100000 in
set_option maxHeartbeats 1000000 in
theorem rwithin_any (p q : T) (w : World) (h1 : p.length ≤ 90000) (h2 : q.length ≤ 90000) :
    Calls Tryz.prog 110 #[.string (bs p), .string (bs q)] w fun e w' => e = .returned (.bool (withinF p q)) ∧ Below w.heap.size w w' := by
  have HPA := hide (rparts_any [47] p w (by simp) (by omega))
  have HQA := hide (fun W => rparts_any [47] q W (by simp) (by omega))
  rw [show bs [47] = ⟨#[47]⟩ from rfl] at HPA HQA
  have hpl := partsF_len [47] p
  have hql := partsF_len [47] q
  have hD : withinF p q = decide ((partsF [47] q).take (partsF [47] p).length = partsF [47] p) := rfl
  obtain ⟨L, hL⟩ : ∃ L, partsF [47] p = L := ⟨_, rfl⟩
  obtain ⟨M, hM⟩ : ∃ L, partsF [47] q = L := ⟨_, rfl⟩
  rw [hL] at HPA hpl hD
  rw [hM] at HQA hql hD
  have HD := hide hD
  clear hL hM hD
  go_enter Tryz.func110, Tryz.ntmps110
  go_wp2_with fail
  refine HPA.out.mono ?_
  rintro e w1 ⟨⟨v, rfl, ho⟩, hb1⟩
  obtain ⟨A, c, rfl, hc, hsr, _⟩ := OwnS.slice ho
  have HA := hide hsr
  have HB1 := hide hb1
  clear ho hb1 hsr
  go_wp2_with fail
  refine (HQA.out w1).mono ?_
  rintro e w2 ⟨⟨v, rfl, ho⟩, hb2⟩
  obtain ⟨B, d, rfl, hd, hsr, _⟩ := OwnS.slice ho
  have HA2 := hide (HA.out.below hb2)
  have HB2 := hide (below_up HB1.out hb2 HB1.out.size)
  have HM2 := hide hsr
  clear ho hb2 hsr
  rw [List.length_map] at hc hd ⊢
  (try rw [List.length_map])
  have hpl2 : L.length ≤ 100000 := by simp at hpl; omega
  have hql2 : M.length ≤ 100000 := by simp at hql; omega
  obtain ⟨n, hn⟩ : ∃ n, L.length = n := ⟨_, rfl⟩
  obtain ⟨m, hm⟩ : ∃ n, M.length = n := ⟨_, rfl⟩
  have HN := hide hn
  have HMM := hide hm
  rw [hn] at hc hpl2 ⊢
  rw [hm] at hd hql2 ⊢
  clear hn hm hpl hql
  by_cases h0 : n ≤ m
  · have d0 : decide ((n : Int) ≤ (m : Int)) = true := by simp; omega
    have d0' : decide (n ≤ m) = true := by simp; omega
    have hni : (n : Int) ≤ (d : Int) := by omega
    have hni2 : (n : Int) ≤ 100000 := by omega
    have hnn : (0 : Int) ≤ (n : Int) := by omega
    have hwr2 : IntKind.i64.wrap (n : Int) = (n : Int) := IntWalk.i64_in _ (by omega)
    have hsm := same_any A B c d (L.map bs) ((M.take n).map bs) w2 HA2.out (by rw [List.map_take]; exact HM2.out.take n) (by rw [List.length_map, HN.out]; exact hpl2)
    rw [show ((M.take n).map bs).length = n by rw [List.length_map, List.length_take, HMM.out]; omega, show (L.map bs).length = n by rw [List.length_map, HN.out], show decide (L.map bs = (M.take n).map bs) = withinF p q by
      rw [HD.out, HN.out]
      exact decide_eq_decide.2 (map_bs_inj.trans eq_comm)] at hsm
    have HSM := hide hsm
    clear hsm h0
    go_wp2_with fail
    refine HSM.out.mono ?_
    rintro e w3 ⟨rfl, hdr⟩
    have HB3 := hide (show Below w.heap.size w w3 by
      obtain ⟨nd, rfl⟩ := hdr
      exact below_drewN HB2.out nd)
    clear hdr
    go_wp2
    go_ret
    exact ⟨rfl, HB3.out⟩
  · have d0 : decide ((n : Int) ≤ (m : Int)) = false := by simp; omega
    have d0' : decide (n ≤ m) = false := by simp; omega
    have HE := hide (show withinF p q = false by
      rw [HD.out, decide_eq_false]
      intro h
      have := congrArg List.length h
      rw [List.length_take, HN.out, HMM.out] at this
      omega)
    clear h0
    go_wp2
    go_ret
    rw [HE.out]
    exact ⟨rfl, HB2.out⟩
end Go.Proofs.YtkajhdbcnmafcaaGreatDoor
