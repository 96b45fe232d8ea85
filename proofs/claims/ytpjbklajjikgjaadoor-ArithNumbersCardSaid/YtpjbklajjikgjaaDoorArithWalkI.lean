/- Walk of package arith: unary, from primary's contract. -/
import Derived.Test.YtpjbklajjikgjaaDoorArithWalkE
import Derived.Test.YtpjbklajjikgjaaDoorArithWalkH
import Derived.Deep.RegionHeld3
import Derived.Deep.CutBlock
namespace Go.Proofs.YtpjbklajjikgjaaDoor
open Go.RowKit Go.Deep

/-- what a sign does -/
def apV (c : UInt8) (n : Int) : Int := if c = 45 then wrap64 (-n) else if c = 33 then trI (n == 0) else if c = 126 then bits .xor .i64 (-1) n else n
/-- what names, operators, signs and digits come to, with the pairs P -/
def KP (P : List Pr) : Ar.Kn := { nv := fun l => nvF P ⟨l.toArray⟩, dop := fun c a b z => (dopV c a b, dopZ c b z), ap := apV, num := nI }
/-- how a call that reads ends -/
def EEnd (g : Nat) (s : ByteArray) (lv : Value) (d : Nat) (w : World) (r : Ar.R) (e : Ending) (w' : World) : Prop := match r with
  | .ok (v, u, z') => ∃ j, e = .returned (.int .i64 v) ∧ RD w' g s j lv d z' ∧ j ≤ s.size ∧ dr s j = u ∧ Gr w w' g
  | .error c => e = .panicked (pw c) ∧ Gr w w' g
/-- primary's contract -/
def PCon (A : Option Addr) (P : List Pr) (c B g : Nat) (s : ByteArray) (d : Nat) (E : Ar.Ex) : Prop :=
  ∀ (i : Nat) (z : Bool) (w : World), RD w g s i (.slice A P.length c) d z → PB w A P B → i ≤ s.size → Ar.sk (dr s i) = dr s i →
    Calls Tryd.prog 43 #[.pointer (some ⟨g, 0, none⟩)] w fun e w' => EEnd g s (.slice A P.length c) d w (Ar.prim (KP P) E (dr s i) z) e w'
theorem own_lt {w : World} {base : Nat} {v : Value} {l : List Nat} (h : OwnB w base v l) : ∀ k, v.ownBlock = some k → base ≤ k ∧ k < w.heap.size := fun k hk => World.ownsRow.lt h k hk
theorem OwnB.gr {w w' : World} {base g : Nat} {v : Value} {l : List Nat} (h : OwnB w base v l) (hg : Gr w w' g) (hb : g < base) : OwnB w' base v l :=
  own_gb h hg (fun k hk => by have := own_lt h k hk; omega)
theorem OwnB.alloc {w : World} {base : Nat} {v : Value} {l : List Nat} (h : OwnB w base v l) (o : Obj) : OwnB (w.alloc o) base v l := World.ownsRow.alloc h o
theorem cell_new1 (w : World) (b : Value) (T : TypeId) : (w.alloc (.cells #[b] T)).cell? ⟨w.heap.size, 0, none⟩ = some b := by rw [World.cell?_alloc_at _ _ _ _ rfl]; rfl
theorem app_keep {wr w1 : World} {nq : Nat} {b : Value} {T : TypeId} {v : Value} {g : Nat} (h : ((wr.drewN nq).alloc (.cells #[b] T)).grownBy w1 v.ownBlock) (hne : v.ownBlock ≠ some g) (hg : g < wr.heap.size) : w1.heap[g]? = wr.heap[g]? :=
  (h.block g (by simp; omega) (fun e => hne e.symm)).trans (heap_alloc_old _ _ (by simpa using hg))
theorem app_gr {w wr w1 : World} {nq : Nat} {b : Value} {T : TypeId} {v : Value} {g : Nat} (hG : Gr w wr g) (h : ((wr.drewN nq).alloc (.cells #[b] T)).grownBy w1 v.ownBlock) (hv : ∀ k, v.ownBlock = some k → w.heap.size ≤ k ∧ k < wr.heap.size) : Gr w w1 g := by
  have hs := hG.size
  have hs2 : (wr.drewN nq).heap.size + 1 ≤ w1.heap.size := by simpa using h.size
  refine ⟨h.os.trans hG.os, h.tape.trans hG.tape, h.output.trans hG.output, Nat.le_trans hs (Nat.le_trans (Nat.le_succ _) hs2), fun i hi hne => ?_⟩
  refine (h.block i (by simp; omega) (fun e => ?_)).trans ((heap_alloc_old _ _ (by simp; omega)).trans (hG.block i hi hne))
  have := (hv i e.symm).1
  omega
theorem OwnB.slice {w : World} {base : Nat} {v : Value} {l : List UInt8} (h : OwnB w base v (l.map UInt8.toNat)) : ∃ A c, v = .slice A l.length c ∧ ∀ (q : Nat) (b : UInt8), l[q]? = some b → ∃ gb, A = some ⟨gb, 0, none⟩ ∧ w.cell? ⟨gb, q, none⟩ = some (.int .u8 b.toNat) := by
  rcases h.2 with ⟨rfl, hn⟩ | ⟨g, cap, cur, rfl, _, hh, hc, _⟩
  · refine ⟨none, 0, by rw [List.length_map] at hn; rw [hn], fun k s hk => ?_⟩
    have := (List.getElem?_eq_some_iff.1 hk).1
    rw [List.length_map] at hn
    omega
  · refine ⟨_, cap, by rw [List.length_map], fun k x hk => ⟨g, rfl, ?_⟩⟩
    have hlt := (List.getElem?_eq_some_iff.1 hk).1
    rw [World.ownsRow.cellAt h k (by rw [List.length_map]; omega)]
    simp [nbytes, hk]
/-- an append of one byte to a slice of bytes of the call's own, at a step of a region that draws its order -/
theorem step_appB {ops : Array Oper} {o : Oper} {a : Act} {w : World} {K : Act → World → Prop} {Q : Exit → Act → World → Prop} {E : Prop} (hgd : o.guard = none) (s x : Operand)
    (ho : o.op = .call { callee := .builtin .append, args := #[s, x], argTypes := #[68, 68] }) (base : Nat) (v : Value) (l : List Nat) (g c b : Nat) (hs : a.eval s = v) (hx : a.eval x = .slice (some ⟨g, 0, none⟩) 1 c)
    (hown : OwnB w base v l) (hc : w.cell? ⟨g, 0, none⟩ = some (.int .u8 b)) (hl : l.length ≤ 1000000) (hbase : base ≤ w.heap.size)
    (h : ∀ v' w', OwnB w' base v' (l ++ [b]) → w.grownBy w' v.ownBlock → K (a.put o.dst v') w') :
    if Region.wanted o (yielded ops a.tmps) = true then Oper.wp Tryd.prog o a w K Q else E := by
  obtain ⟨i0, hi, hz0, hz1, hz2⟩ := info_parts info5
  refine step_append_lies w hgd s x 68 ho base 5 i0 _ 1 1 Tryd.underlying68 hi hz0 hz1 hz2 rfl (by omega) v l.length (nbytes l) hs hown ⟨g, 0, none⟩ 1 c [.int .u8 (b : Nat)] hx rfl ?_ (by intro u hu; simp at hu; subst hu; rfl) (by omega)
    (by simp only [maxLen]; omega) (by omega) hbase _ rfl ?_
  · intro j u hu
    cases j with
    | zero => simp at hu; subst hu; exact hc
    | succ j => simp at hu
  · intro g' cap w' ho' hg' _ _
    refine h _ w' ?_ hg'
    unfold OwnB
    rw [nbytes_snoc, List.length_append]
    exact ho'
set_option maxRecDepth 100000 in
set_option maxHeartbeats 2000000 in
theorem unary_any (A : Option Addr) (P : List Pr) (c B g : Nat) (s : ByteArray) (d : Nat) (E : Ar.Ex) (hp : PCon A P c B g s d E) (hB : B ≤ g) (hs : s.size ≤ 100000) (i : Nat) (z : Bool) (w : World) (h : RD w g s i (.slice A P.length c) d z) (hP : PB w A P B) (hi : i ≤ s.size) :
    Calls Tryd.prog 35 #[.pointer (some ⟨g, 0, none⟩)] w fun e w' => EEnd g s (.slice A P.length c) d w (Ar.una (KP P) E (dr s i) z) e w' := by
  have H := hide h
  have HC := hide hp
  have HP := hide hP
  have hgl := h.lt
  clear h hp hP
  go_enter Tryd.func35, Tryd.ntmps35
  go_wp2_with fail
  refine (blank_any g s i (.slice A P.length c) d z w H.out hi hs).mono ?_
  rintro e w1 ⟨rfl, j, hr, hij, hj, hsk, hgr⟩
  have HR1 := hide hr
  have HS1 := hide hsk
  have HG1 := hide hgr
  clear hr hsk hgr H
  go_upto_block 0 with (fail)
  go_cut [3] from 8 to 64 (fun v3 wr => ∃ (k : Nat) (sg : List UInt8) (vs : Value), vs = v3 ∧ RD wr g s k (.slice A P.length c) d z ∧ k ≤ s.size ∧ Hid (Ar.sgn (dr s i) = (sg, dr s k) ∧ Ar.sk (dr s k) = dr s k) ∧ OwnB wr w.heap.size vs (sg.map UInt8.toNat) ∧ sg.length ≤ k ∧ Gr w wr g)
  case first =>
    go_wp2
    go_loopg [3] (s.size - j) (fun n v3 wr => ∃ (k : Nat) (sg : List UInt8) (vs : Value), n = s.size - k ∧ vs = v3 ∧ RD wr g s k (.slice A P.length c) d z ∧ k ≤ s.size ∧ Hid (Ar.sk (dr s k) = dr s k ∧ Ar.sgn (dr s i) = (sg ++ (Ar.sgn (dr s k)).1, (Ar.sgn (dr s k)).2)) ∧ OwnB wr w.heap.size vs (sg.map UInt8.toNat) ∧ sg.length ≤ k ∧ Gr w wr g)
    case atStart => exact ⟨j, [], _, rfl, rfl, HR1.out, hj, ⟨by rw [HS1.out, Ar.sk_sk], by rw [HS1.out, sgn_sk]; rfl⟩, World.ownsRow_nil _ _ _ _, Nat.zero_le _, HG1.out⟩
    case round =>
      obtain ⟨k, sg, vs, hgk, rfl, hr, hk, HK, ho, hsl, hg⟩ := hrel
      have hc0 := hr.c0
      have hc1 := hr.c1
      have hf := hr.fz 1
      have HR := hide hr
      have HO := hide ho
      have HG := hide hg
      have hk0 : (0 : Int) ≤ (k : Int) := by omega
      have hks : (k : Int) ≤ (s.size : Int) := by omega
      clear hr ho hg HR1 HS1 HG1
      have htk : List.take (s.size - k) (List.drop k s.data.toList) = dr s k := by rw [List.take_of_length_le (by simp)]; rfl
      have HTK := hide htk
      clear htk
      by_cases hlt : k < s.size
      · have hd : decide ((k : Int) < (s.size : Int)) = true := by simp only [decide_eq_true_eq]; omega
        have hkl : (k : Int) < (s.size : Int) := by omega
        cases h4 : sg4 s[k] with
        | true =>
          have hge : decide ((0 : Int) ≤ Lib.indexByte [43, 45, 33, 126] s[k]) = true := by rw [sg4_index]; exact h4
          cases hne : Lib.hasPrefix (dr s k) [33, 61] with
          | false =>
            have hpp : Lib.hasPrefix (List.take (s.size - k) (List.drop k s.data.toList)) [33, 61] = false := by rw [HTK.out, hne]
            have HON := hide (show Ar.sgn (dr s k) = (s[k] :: (Ar.sgn (Ar.sk (dr s (k + 1)))).1, (Ar.sgn (Ar.sk (dr s (k + 1)))).2) from
              sgn_on hlt HK.out.1 (by rw [isSg_eq, h4, ← ne_eq2 hlt, hne]; rfl))
            clear hne h4
            go_wp2
            go_quiet ((first | (go_at_call 38; exact Calls.quiet_of_same (Tryd.strings_IndexByte _ _ _)) | (go_at_call 42; exact Calls.quiet_of_same (Tryd.strings_HasPrefix _ _ _))))
            go_wp2
            have hng : g ≠ wr.heap.size := by have := HR.out.lt; omega
            have hbs : w.heap.size ≤ wr.heap.size + 1 := Nat.le_succ_of_le HG.out.size
            have hl1 : (sg.map UInt8.toNat).length ≤ 1000000 := by simp; omega
            have hvg : vs.ownBlock ≠ some g := fun e => by have := (own_lt HO.out g e).1; omega
            have hgr := HR.out.lt
            go_region_held3 (fun w' => w'.cell? ⟨g, 0, none⟩ = some (.string s) ∧ w'.cell? ⟨g, 1, none⟩ = some (.int .i64 k))
              (first | exact ⟨hc0, hc1⟩ | exact ⟨(World.cell?_alloc_old _ _ _ hng).trans hc0, (World.cell?_alloc_old _ _ _ hng).trans hc1⟩ | exact ⟨(World.cell?_of_block zb).trans hc0, (World.cell?_of_block zb).trans hc1⟩)
              ((refine step_appB ?_ (.tmp 46) (.tmp 56) ?_ w.heap.size vs (sg.map UInt8.toNat) wr.heap.size 1 s[k].toNat ?_ ?_ ?_ ?_ ?_ ?_ ?_; exact rfl; exact rfl; exact rfl; exact rfl; exact OwnB.alloc HO.out _; exact cell_new1 _ _ _; exact hl1; (first | exact hbs | (simp; exact hbs)); intro v1 w1 o1 g1; have zb := app_keep g1 hvg hgr; have O1 := hide o1; have G1 := hide (app_gr HG.out g1 (own_lt HO.out)); clear o1 g1))
            have HR1 := hide (HR.out.kept zb)
            have hc01 := HR1.out.c0
            have hc11 := HR1.out.c1
            have hf1 := HR1.out.fz 1
            clear zb hc0 hc1 hf
            go_wp2_with fail
            refine (blank_any g s (k + 1) (.slice A P.length c) d z _ (HR1.out.seti (k + 1)) (by omega) hs).mono ?_
            rintro e w2 ⟨rfl, k2, hr2, hk12, hk2, hsk2, hg2⟩
            have HR2 := hide hr2
            have HS2 := hide hsk2
            have HG2 := hide (gb_trans (gb_setCell G1.out 1 _) hg2)
            have HO2 := hide (OwnB.gr (OwnB.gr O1.out (gb_setCell (Gr.refl _ g) 1 _) hgl) hg2 hgl)
            clear hr2 hsk2 hg2
            go_wp2
            go_roundg (s.size - k2)
            case rel => exact ⟨k2, sg ++ [s[k]], v1, rfl, rfl, HR2.out, hk2, ⟨by rw [HS2.out, Ar.sk_sk], by rw [HK.out.2, HON.out, HS2.out, List.append_assoc]; rfl⟩, by rw [List.map_append]; exact HO2.out, by simp; omega, HG2.out⟩
            case measure => omega
          | true =>
            have hpp : Lib.hasPrefix (List.take (s.size - k) (List.drop k s.data.toList)) [33, 61] = true := by rw [HTK.out, hne]
            have HOF := hide (show Ar.sgn (dr s k) = ([], dr s k) from sgn_off hlt HK.out.1 (by rw [isSg_eq, h4, ← ne_eq2 hlt, hne]; rfl))
            clear hne h4
            go_wp2
            go_quiet ((first | (go_at_call 38; exact Calls.quiet_of_same (Tryd.strings_IndexByte _ _ _)) | (go_at_call 42; exact Calls.quiet_of_same (Tryd.strings_HasPrefix _ _ _))))
            go_wp2
            go_meet
            exact ⟨k, sg, vs, rfl, HR.out.drewN _, hk, ⟨by rw [HK.out.2, HOF.out, List.append_nil], HK.out.1⟩, HO.out, hsl, gb_drewN HG.out _⟩
        | false =>
          have hge : decide ((0 : Int) ≤ Lib.indexByte [43, 45, 33, 126] s[k]) = false := by rw [sg4_index]; exact h4
          have HOF := hide (show Ar.sgn (dr s k) = ([], dr s k) from sgn_off hlt HK.out.1 (by rw [isSg_eq, h4]; rfl))
          clear h4
          go_wp2
          go_quiet ((first | (go_at_call 38; exact Calls.quiet_of_same (Tryd.strings_IndexByte _ _ _)) | (go_at_call 42; exact Calls.quiet_of_same (Tryd.strings_HasPrefix _ _ _))))
          go_wp2
          go_meet
          exact ⟨k, sg, vs, rfl, HR.out.drewN _, hk, ⟨by rw [HK.out.2, HOF.out, List.append_nil], HK.out.1⟩, HO.out, hsl, gb_drewN HG.out _⟩
      · have hd : decide ((k : Int) < (s.size : Int)) = false := by simp only [decide_eq_false_iff_not]; omega
        have HOF := hide (show Ar.sgn (dr s k) = ([], dr s k) from sgn_end (by omega))
        go_wp2
        go_quiet (fail)
        go_wp2
        go_meet
        exact ⟨k, sg, vs, rfl, HR.out.drewN _, hk, ⟨by rw [HK.out.2, HOF.out, List.append_nil], HK.out.1⟩, HO.out, hsl, gb_drewN HG.out _⟩
  case rest =>
    obtain ⟨k, sg, vs, rfl, hr, hk, HK, ho, hsl, hg⟩ := hcut
    have hPk := HP.out.kept hg hB
    have hcall := HC.out k z wc hr hPk hk HK.out.2
    have HU := hide (show Ar.una (KP P) E (dr s i) z = Ar.bd (Ar.prim (KP P) E (dr s k) z) fun x => .ok (sg.foldr apV x.1, x.2.1, x.2.2) by rw [Ar.una, HK.out.1]; rfl)
    have HO := hide ho
    have HG := hide hg
    clear hr ho hg hPk HK HR1 HS1 HG1
    go_wp2_with fail
    refine hcall.mono ?_
    rintro e w2 hend
    clear hcall
    generalize Ar.prim (KP P) E (dr s k) z = r at HU hend
    cases r with
    | error c2 =>
      obtain ⟨rfl, hg2⟩ := hend
      refine ⟨rfl, ?_⟩
      rw [HU.out]
      exact ⟨rfl, gb_trans HG.out hg2⟩
    | ok x =>
      obtain ⟨v, u, z'⟩ := x
      obtain ⟨j2, rfl, hr2, hj2, hu2, hg2⟩ := hend
      have HR2 := hide hr2
      have HJ2 := hide hu2
      have HG2 := hide (gb_trans HG.out hg2)
      obtain ⟨A2, c2, rfl, hcell⟩ := (HO.out.gr hg2 hgl).slice
      have HCE := hide hcell
      clear hr2 hu2 hg2 hcell HO HG
      have hsl2 : sg.length ≤ 100000 := by omega
      go_wp2
      go_loop [4, 5] (fun v4 v5 => ∃ (q : Nat) (m : Int), v5 = .int .i64 ((q : Int) - 1) ∧ q ≤ sg.length ∧ v4 = .int .i64 m ∧ Hid ((sg.take q).foldr apV m = sg.foldr apV v)) (fun _ v5 => (intOf v5 + 1).toNat)
      case atStart => exact ⟨sg.length, v, by simp, Nat.le_refl _, rfl, by rw [List.take_length]; exact rfl⟩
      case round =>
        obtain ⟨q, m, rfl, hq, rfl, HF⟩ := hrel
        by_cases hq0 : 0 < q
        · obtain ⟨q, rfl⟩ : ∃ q', q = q' + 1 := ⟨q - 1, by omega⟩
          obtain ⟨c, hc⟩ : ∃ c, sg[q]? = some c := ⟨sg[q]'(by omega), List.getElem?_eq_getElem _⟩
          obtain ⟨gb, rfl, hcg⟩ := HCE.out q c hc
          have HF2 := hide (show (sg.take q).foldr apV (apV c m) = sg.foldr apV v by rw [← HF.out, List.take_add_one, hc]; simp)
          have hc256 : c.toNat < 256 := c.toNat_lt
          clear hc
          rw [show ((q + 1 : Nat) : Int) - 1 = (q : Int) by omega]
          by_cases h1 : c.toNat = 45
          · have h45 : (((c.toNat : Nat) : Int) == 45) = true := by rw [h1]; rfl
            have h33 : (((c.toNat : Nat) : Int) == 33) = false := by rw [h1]; rfl
            have h126 : (((c.toNat : Nat) : Int) == 126) = false := by rw [h1]; rfl
            have HA := hide (show apV c m = wrap64 (-m) by rw [show c = 45 from UInt8.toNat_inj.1 h1]; rfl)
            clear h1
            go_wp2
            go_round
            case rel => exact ⟨q, _, rfl, by omega, rfl, by rw [← HF2.out, HA.out]; exact rfl⟩
            case measure => simp [intOf]
          · have n1 := h1
            clear h1
            by_cases h1 : c.toNat = 33
            · have h45 : (((c.toNat : Nat) : Int) == 45) = false := by rw [h1]; rfl
              have h33 : (((c.toNat : Nat) : Int) == 33) = true := by rw [h1]; rfl
              have h126 : (((c.toNat : Nat) : Int) == 126) = false := by rw [h1]; rfl
              have HA := hide (show apV c m = trI (m == 0) by rw [show c = 33 from UInt8.toNat_inj.1 h1]; rfl)
              clear h1
              go_wp2_with fail
              refine (truth_any (m == 0) _).mono ?_
              rintro e w' ⟨rfl, rfl⟩
              go_wp2
              go_round
              case rel => exact ⟨q, _, rfl, by omega, rfl, by rw [← HF2.out, HA.out]; exact rfl⟩
              case measure => simp [intOf]
            · have n2 := h1
              clear h1
              by_cases h1 : c.toNat = 126
              · have h45 : (((c.toNat : Nat) : Int) == 45) = false := by rw [h1]; rfl
                have h33 : (((c.toNat : Nat) : Int) == 33) = false := by rw [h1]; rfl
                have h126 : (((c.toNat : Nat) : Int) == 126) = true := by rw [h1]; rfl
                have HA := hide (show apV c m = bits .xor .i64 (-1) m by rw [show c = 126 from UInt8.toNat_inj.1 h1]; rfl)
                clear h1
                go_wp2
                go_round
                case rel => exact ⟨q, _, rfl, by omega, rfl, by rw [← HF2.out, HA.out]; exact rfl⟩
                case measure => simp [intOf]
              · have n3 := h1
                clear h1
                have h45 : (((c.toNat : Nat) : Int) == 45) = false := by simp only [beq_eq_false_iff_ne]; omega
                have h33 : (((c.toNat : Nat) : Int) == 33) = false := by simp only [beq_eq_false_iff_ne]; omega
                have h126 : (((c.toNat : Nat) : Int) == 126) = false := by simp only [beq_eq_false_iff_ne]; omega
                have HA := hide (show apV c m = m by rw [apV, if_neg (fun e => by subst e; exact n1 rfl), if_neg (fun e => by subst e; exact n2 rfl), if_neg (fun e => by subst e; exact n3 rfl)])
                clear n1 n2 n3
                go_wp2
                go_round
                case rel => exact ⟨q, _, rfl, by omega, rfl, by rw [← HF2.out, HA.out]; exact rfl⟩
                case measure => simp [intOf]
        · obtain rfl : q = 0 := by omega
          have hd : decide ((0 : Int) ≤ ((0 : Nat) : Int) - 1) = false := by decide
          have HFF := hide (show m = sg.foldr apV v from HF.out)
          go_wp2
          go_ret
          rw [HU.out]
          exact ⟨j2, by rw [HFF.out]; rfl, HR2.out, hj2, HJ2.out, HG2.out⟩
end Go.Proofs.YtpjbklajjikgjaaDoor
