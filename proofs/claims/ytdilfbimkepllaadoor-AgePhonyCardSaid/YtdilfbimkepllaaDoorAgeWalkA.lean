/- Walks of age.node, age.Newer and age.Old. -/
import Derived.Test.YtdilfbimkepllaaDoorVfsWalkB
import Derived.Test.YtdilfbimkepllaaDoorFindWalkB
namespace Go.Proofs.YtdilfbimkepllaaDoor
open Go.RowKit Go.Deep Go.Maps Ln Pth Vf
attribute [local go_sem] bt_eq

/-- whether something is at a path, and its time -/
def nodeS (S : St) (cwd : T) (s : ByteArray) : Bool × Nat := if (absF cwd s.data.toList).2 ≠ 0 ∨ kindS S (absF cwd s.data.toList).1 = 0 then (false, 0) else (true, timeS S (absF cwd s.data.toList).1)
def newerS (S : St) (cwd : T) (target : ByteArray) (L : List ByteArray) : List ByteArray := L.filter fun s => !(nodeS S cwd target).1 || decide ((nodeS S cwd target).2 < (nodeS S cwd s).2)
def phony : ByteArray := ⟨#[46, 80, 72, 79, 78, 89]⟩
def madeS (S : St) (cwd : T) (m : List Rl) (made : List ByteArray) (s : ByteArray) : Bool := Lib.containsS made s && (!(nodeS S cwd s).1 || hasR m phony s)
def oldS (S : St) (cwd : T) (m : List Rl) (target : ByteArray) (needs made : List ByteArray) : Bool := !(nodeS S cwd target).1 || hasR m phony target || decide (0 < (newerS S cwd target needs).length) || needs.any (madeS S cwd m made)
theorem absF_len' (cwd p : T) : (absF cwd p).1.length ≤ 200 := by
  rcases absF_cases cwd p with ⟨l, g, e, _⟩ | ⟨e, _⟩
  · rw [e]; exact g.len
  · rw [e]; simp
set_option maxRecDepth 100000 in
set_option maxHeartbeats 1000000 in
theorem node_any (g : Nat) (S : St) (cwd : T) (s : ByteArray) (w : World) (h : Hs (VS g S) w) (hm : MX w) (h1 : cwd.length ≤ 100000) (h2 : s.size ≤ 100000) :
    Calls Tryd.prog 34 #[.pointer (some ⟨g, 0, none⟩), .string (bs cwd), .string s] w fun e w' => e = .returned (.tuple #[.bool (nodeS S cwd s).1, .int .i64 (nodeS S cwd s).2]) ∧ Below w.heap.size w w' := by
  have HA := hide (abs_any cwd s.data.toList w hm h1 (by rw [data_len]; exact h2))
  rw [bs_of] at HA
  have hl := absF_len' cwd s.data.toList
  have hR : nodeS S cwd s = if (absF cwd s.data.toList).2 ≠ 0 ∨ kindS S (absF cwd s.data.toList).1 = 0 then (false, 0) else (true, timeS S (absF cwd s.data.toList).1) := rfl
  have HK := hide (fun W (hb : Below w.heap.size w W) => vkind_any g S (absF cwd s.data.toList).1 W (h.below (VS.fr g S) hb) (hm.below hb) (by omega))
  have HT := hide (fun W (hb : Below w.heap.size w W) => vtime_any g S (absF cwd s.data.toList).1 W (h.below (VS.fr g S) hb) (hm.below hb) (by omega))
  unfold AbsPost at HA
  obtain ⟨q, hq⟩ : ∃ q, (absF cwd s.data.toList).1 = q := ⟨_, rfl⟩
  obtain ⟨e, he⟩ : ∃ q, (absF cwd s.data.toList).2 = q := ⟨_, rfl⟩
  obtain ⟨kk, hkk⟩ : ∃ k, kindS S q = k := ⟨_, rfl⟩
  rw [hq] at HA HK HT hR
  rw [he] at HA hR
  rw [hkk] at HK hR
  have HR := hide hR
  clear hR hq he hkk hl h hm
  by_cases c1 : e = 0
  case neg =>
    obtain ⟨t1, t2⟩ := ne0 c1
    have HE := hide (HR.out.trans (if_pos (.inl c1)))
    clear c1
    go_enter Tryd.func34, Tryd.ntmps34
    go_wp2_with fail
    refine HA.out.mono ?_
    rintro e w1 ⟨rfl, hb⟩
    have HB := hide hb
    clear hb
    go_wp2
    go_ret2
    rw [HE.out]
    exact ⟨rfl, HB.out⟩
  subst c1
  by_cases k0 : kk = 0
  · subst k0
    have HE := hide (HR.out.trans (if_pos (.inr rfl)))
    go_enter Tryd.func34, Tryd.ntmps34
    go_wp2_with fail
    refine HA.out.mono ?_
    rintro e w1 ⟨rfl, hb⟩
    have HB := hide hb
    clear hb
    go_wp2_with fail
    refine (HK.out w1 HB.out).mono ?_
    rintro e w2 ⟨rfl, hb⟩
    have HB2 := hide (below_up HB.out hb HB.out.size)
    clear hb
    go_wp2
    go_ret2
    rw [HE.out]
    exact ⟨rfl, HB2.out⟩
  · obtain ⟨t1, t2⟩ := ne0 k0
    have HE := hide (HR.out.trans (if_neg (by rintro (h | h); exact h rfl; exact k0 h)))
    clear k0
    go_enter Tryd.func34, Tryd.ntmps34
    go_wp2_with fail
    refine HA.out.mono ?_
    rintro e w1 ⟨rfl, hb⟩
    have HB := hide hb
    clear hb
    go_wp2_with fail
    refine (HK.out w1 HB.out).mono ?_
    rintro e w2 ⟨rfl, hb⟩
    have HB2 := hide (below_up HB.out hb HB.out.size)
    clear hb
    go_wp2_with fail
    refine (HT.out w2 HB2.out).mono ?_
    rintro e w3 ⟨rfl, hb⟩
    have HB3 := hide (below_up HB2.out hb HB2.out.size)
    clear hb
    go_wp2
    go_ret2
    rw [HE.out]
    exact ⟨rfl, HB3.out⟩
theorem newer_take {S : St} {cwd : T} {target : ByteArray} {L : List ByteArray} {k : Nat} {x : ByteArray} (h : L[k]? = some x) : newerS S cwd target (L.take (k + 1)) = newerS S cwd target (L.take k) ++ if (!(nodeS S cwd target).1 || decide ((nodeS S cwd target).2 < (nodeS S cwd x).2)) = true then [x] else [] := by
  unfold newerS
  rw [List.take_add_one, h, List.filter_append]
  congr 1
  by_cases hc : (!(nodeS S cwd target).1 || decide ((nodeS S cwd target).2 < (nodeS S cwd x).2)) = true
  · rw [if_pos hc]; simp only [Option.toList_some, List.filter_cons, hc, if_true, List.filter_nil]
  · rw [if_neg hc]; simp only [Option.toList_some, List.filter_cons, hc, List.filter_nil]; rfl
set_option maxRecDepth 100000 in
set_option maxHeartbeats 2000000 in
theorem newer_any (g : Nat) (S : St) (cwd : T) (target : ByteArray) (A : Option Addr) (c : Nat) (L : List ByteArray) (w : World) (h : Hs (VS g S) w) (hm : MX w) (h1 : cwd.length ≤ 100000) (h2 : target.size ≤ 100000) (hA : SR w A L) (hl : L.length ≤ 100000) (hs : ∀ x ∈ L, x.size ≤ 100000) :
    Calls Tryd.prog 15 #[.pointer (some ⟨g, 0, none⟩), .string (bs cwd), .string target, .slice A L.length c] w fun e w' => (∃ v, e = .returned v ∧ OwnS w' w.heap.size v (newerS S cwd target L)) ∧ Below w.heap.size w w' := by
  have HN0 := hide (fun W (hb : Below w.heap.size w W) x (hx : x.size ≤ 100000) => node_any g S cwd x W (h.below (VS.fr g S) hb) (hm.below hb) h1 hx)
  have HA := hide hA
  have HSZ := hide hs
  obtain ⟨n, hn⟩ : ∃ n, L.length = n := ⟨_, rfl⟩
  have HN := hide hn
  rw [hn] at hl ⊢
  have HT := hide (fun k x (hx : L[k]? = some x) => newer_take (S := S) (cwd := cwd) (target := target) hx)
  obtain ⟨tb, htb⟩ : ∃ b, (nodeS S cwd target).1 = b := ⟨_, rfl⟩
  obtain ⟨tt, htt⟩ : ∃ b, (nodeS S cwd target).2 = b := ⟨_, rfl⟩
  rw [htb, htt] at HT
  have HNT := hide (HN0.out w (Below.refl _ _) target h2)
  rw [htb, htt] at HNT
  have hn1 : (n : Int) ≤ 100000 := by omega
  clear h hm hA hs hn htb htt
  go_enter Tryd.func15, Tryd.ntmps15
  go_wp2_with fail
  refine HNT.out.mono ?_
  rintro e w1 ⟨rfl, hb⟩
  have HB1 := hide hb
  clear hb
  go_wp2
  go_loopw [11, 13, 14, 15, 25] (fun v11 _ _ _ v25 wr => ∃ k : Nat, v25 = .int .i64 k ∧ k ≤ n ∧ OwnS wr w.heap.size v11 (newerS S cwd target (L.take k)) ∧ Below w.heap.size w wr) (fun _ _ _ _ v25 _ => n - (intOf v25).toNat)
  case atStart => exact ⟨0, rfl, by omega, OwnS.nil _ _, HB1.out⟩
  case round =>
    obtain ⟨k, rfl, hk, ho, hb⟩ := hrel
    have HO := hide ho
    have HB := hide hb
    have HAR := hide (HA.out.below hb)
    clear ho hb
    by_cases hlt : k < n
    · obtain ⟨x, hx⟩ : ∃ x, L[k]? = some x := ⟨L[k]'(by have := HN.out; omega), List.getElem?_eq_getElem _⟩
      obtain ⟨gs, o, rfl, hg, hc⟩ := HAR.out k x hx
      have hxs := HSZ.out x (List.mem_of_getElem? hx)
      have ht := HT.out k x hx
      have HNX := hide (fun W hb => HN0.out W hb x hxs)
      obtain ⟨xb, hxb⟩ : ∃ b, (nodeS S cwd x).1 = b := ⟨_, rfl⟩
      obtain ⟨xt, hxt⟩ : ∃ b, (nodeS S cwd x).2 = b := ⟨_, rfl⟩
      rw [hxb, hxt] at HNX
      rw [hxt] at ht
      have HTK := hide ht
      have hql : (newerS S cwd target (L.take k)).length ≤ 100000 := by
        unfold newerS
        refine Nat.le_trans (List.length_filter_le _ _) ?_
        rw [List.length_take]
        omega
      have b1 : (k : Int) < (n : Int) := by omega
      clear hx ht hxb hxt hxs
      go_wp2_with fail
      refine (HNX.out wr HB.out).mono ?_
      rintro e w2 ⟨rfl, hb2⟩
      have hbw : w.heap.size ≤ wr.heap.size := HB.out.size
      have HB2 := hide hb2
      have HBW := hide (below_up HB.out hb2 hbw)
      clear hb2
      obtain ⟨cond, hcond⟩ : ∃ b, (!tb || decide (tt < xt)) = b := ⟨_, rfl⟩
      have HCO := hide hcond
      cases cond with
      | false =>
        have HE := hide (show newerS S cwd target (L.take (k + 1)) = newerS S cwd target (L.take k) by rw [HTK.out, HCO.out, if_neg (by simp), List.append_nil])
        simp only [Bool.or_eq_false_iff, Bool.not_eq_false', decide_eq_false_iff_not] at hcond
        obtain ⟨rfl, hle⟩ := hcond
        have d1 : decide ((tt : Int) < (xt : Int)) = false := by simp; omega
        have d2 : decide (tt < xt) = false := by simp; omega
        clear hle
        go_wp2
        go_roundw
        case rel => exact ⟨k + 1, by go_num, by omega, by rw [HE.out]; exact HO.out.below' HB2.out, HBW.out⟩
        case measure => simp [intOf]; omega
      | true =>
        have HE := hide (show newerS S cwd target (L.take (k + 1)) = newerS S cwd target (L.take k) ++ [x] by rw [HTK.out, HCO.out, if_pos rfl])
        obtain ⟨v4, w4, r4, o4, g4, b4⟩ := run_appS (c := 1) (OwnS.alloc (HO.out.below' HB2.out) (.cells #[.string x] 9)) (sr_new w2 x) (by have := HBW.out.size; simp; omega) (by simp; omega)
        have HO4 := hide o4
        have HB4 := hide ((HBW.out.alloc HBW.out.size (.cells #[.string x] 9)).trans ((Below.refl w.heap.size _).grown g4 (by have := HBW.out.size; simp; omega) (fun q hq => (World.ownsRow.lt HO.out q hq).1)))
        clear o4 g4 b4
        cases tb with
        | false =>
          clear hcond
          go_wp2_with (at_builtin; refine wpList_app_run ?_ (.tmp 43) (.tmp 45) ?_ ?_ ?_ ?_ r4 ?_; exact rfl; exact rfl; exact rfl; exact rfl; exact rfl)
          go_roundw
          case rel => exact ⟨k + 1, by go_num, by omega, by rw [HE.out]; exact HO4.out, HB4.out⟩
          case measure => simp [intOf]; omega
        | true =>
          have hle : tt < xt := by simpa using hcond
          have d1 : (tt : Int) < (xt : Int) := by omega
          clear hcond
          go_wp2_with (at_builtin; refine wpList_app_run ?_ (.tmp 43) (.tmp 45) ?_ ?_ ?_ ?_ r4 ?_; exact rfl; exact rfl; exact rfl; exact rfl; exact rfl)
          go_roundw
          case rel => exact ⟨k + 1, by go_num, by omega, by rw [HE.out]; exact HO4.out, HB4.out⟩
          case measure => simp [intOf]; omega
    · obtain rfl : k = n := by omega
      have HF := hide (show newerS S cwd target (L.take k) = newerS S cwd target L by rw [List.take_of_length_le (by have := HN.out; omega)])
      rw [HF.out] at HO
      go_wp2
      go_ret
      exact ⟨⟨_, rfl, HO.out⟩, HB.out⟩
end Go.Proofs.YtdilfbimkepllaaDoor
