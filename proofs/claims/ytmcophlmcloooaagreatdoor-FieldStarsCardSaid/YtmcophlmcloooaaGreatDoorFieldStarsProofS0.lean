/- Walks and plain facts that the claim uses. -/
import Derived.Test.YtmcophlmcloooaaGreatDoorFD2
set_option maxRecDepth 100000
set_option maxHeartbeats 16000000
set_option linter.unusedSimpArgs false
set_option linter.unusedVariables false
namespace Go.Proofs.YtmcophlmcloooaaGreatDoor
section
open Go.RowKit Go.Deep Go.Maps Ln Pth Vf Qm.Glob Qm.Base
def stP : ByteArray := ⟨#[47, 100, 47, 42]⟩
def starB : ByteArray := ⟨#[42]⟩
def dB : ByteArray := ⟨#[100]⟩
def slB : ByteArray := ⟨#[47]⟩
def sldB : ByteArray := ⟨#[47, 100]⟩
theorem st_pat : plT stP = none ∧ startB slB stP = some (slB, slB) ∧ partsQ stP = [dB, starB] := by
 refine ⟨of_decide_eq_true (by kernel_rfl), rfl, of_decide_eq_true (by kernel_rfl)⟩
def visB (s : ByteArray) : Bool := !dotS s
def namesD (S : St) : List ByteArray := ((namesM S.m [47, 100]).map bs).filter visB
def wantSt (S : St) : List ByteArray := (namesD S).map fun n => bs ([47, 100, 47] ++ n.data.toList)
def orSt (L : List ByteArray) : List ByteArray := if L = [] then [stP] else L
theorem putS_end {s : ByteArray} : ∀ {acc : List ByteArray}, (∀ x ∈ acc, sLt x s = true) → putS s acc = acc ++ [s]
 | [], _ => rfl
 | x :: acc, h => by
   rw [putS, if_pos (h x (by simp)), putS_end (fun y hy => h y (by simp [hy]))]
   rfl
theorem foldS_rise : ∀ (L acc : List ByteArray), (acc ++ L).Pairwise (fun a b => sLt a b = true) → L.foldl (fun acc s => putS s acc) acc = acc ++ L
 | [], acc, _ => by simp
 | x :: L, acc, h => by
   have h1 := List.pairwise_append.1 h
   rw [List.foldl_cons, putS_end (fun y hy => h1.2.2 y hy x (by simp)), foldS_rise L (acc ++ [x]) (by simpa using h)]
   simp
theorem putG_end {α : Type} {x : ByteArray × α} : ∀ {acc : List (ByteArray × α)}, (∀ y ∈ acc, sLt y.1 x.1 = true) → putG x acc = acc ++ [x]
 | [], _ => rfl
 | y :: acc, h => by
   rw [putG, if_pos (h y (by simp)), putG_end (fun z hz => h z (by simp [hz]))]
   rfl
theorem foldG_rise {α : Type} : ∀ (L acc : List (ByteArray × α)), (acc ++ L).Pairwise (fun a b => sLt a.1 b.1 = true) → L.foldl (fun acc s => putG s acc) acc = acc ++ L
 | [], acc, _ => by simp
 | x :: L, acc, h => by
   have h1 := List.pairwise_append.1 h
   rw [List.foldl_cons, putG_end (fun y hy => h1.2.2 y hy x (by simp)), foldG_rise L (acc ++ [x]) (by simpa using h)]
   simp
theorem sLt_bs (a b : T) : sLt (bs a) (bs b) = decide (a < b) := by
 rw [Bool.eq_iff_iff, sLt_iff, bs_list, bs_list, decide_eq_true_iff]
theorem namesS_rise {S : St} (hS : WfS S) (q : T) : ((namesM S.m q).map bs).Pairwise (fun a b => sLt a b = true) := by
 rw [List.pairwise_map]
 exact (names_rise hS.rise q).imp fun {a b} h => by rw [sLt_bs]; exact decide_eq_true h
theorem items_star : gItems (bt starB) starB.size = [giStar] := rfl
theorem match_starB (s : ByteArray) : gMatch starB s = true := by
 unfold gMatch
 rw [items_star]
 exact EL_star (bt s) s.size
theorem items_d : gItems (bt dB) dB.size = [100].map giOne := rfl
theorem match_d (s : ByteArray) : gMatch dB s = decide (s = dB) := by
 unfold gMatch
 rw [items_d]
 have := EL_text (bt s) [100] s.size
 refine this.trans ?_
 rw [Bool.eq_iff_iff, decide_eq_true_iff]
 constructor
 · intro h
   obtain ⟨h1, h2⟩ := Bool.and_eq_true_iff.1 h
   have h1 : s.size = 1 := by simpa using h1
   have h2 : bt s 0 = 100 := by simpa using h2
   refine bt_ext h1 fun j hj => ?_
   obtain rfl : j = 0 := by omega
   exact h2
 · rintro rfl
   rfl
theorem dots_d : dotsB dB = false := by kernel_rfl
theorem dots_star : dotsB starB = false := by kernel_rfl
theorem keep_d (s : ByteArray) : keepN dB s = decide (s = dB) := by
 unfold keepN
 rw [match_d]
 by_cases h : s = dB
 · subst h; rfl
 · simp [h]
theorem keep_star (s : ByteArray) : keepN starB s = visB s := by
 unfold keepN
 rw [match_starB, show dotP starB = false from rfl]
 simp [visB]
theorem list_root (S : St) : (listS S [47]).1 = namesM S.m [47] := by
 have ha : absS S [47] = ([47], 0) := by
   unfold absS
   rw [show absF [47] [47] = ([47], 0) from by decide +kernel]
   simp [wayM, wayB]
 unfold listS foundS
 rw [ha]
 simp [kindM]
theorem abs_dir {S : St} : absS S [47, 100] = ([47, 100], 0) := by
 unfold absS
 rw [show absF [47] [47, 100] = ([47, 100], 0) from by decide +kernel]
 simp [wayM, wayB]
theorem list_dir {S : St} (h : kindM S.m [47, 100] = 2) : listS S [47, 100] = (namesM S.m [47, 100], 0) := by
 unfold listS foundS
 rw [abs_dir]
 simp [h]
theorem kind_dir {S : St} : kindS S [47, 100] = kindM S.m [47, 100] := by
 unfold kindS
 rw [abs_dir]
 simp
theorem d_in {S : St} (hS : WfS S) (h : kindM S.m [47, 100] = 2) : ([100] : T) ∈ namesM S.m [47] := by
 obtain ⟨n, hn⟩ := getG_some_kind (m := S.m) (q := [47, 100]) (by decide) (by omega)
 rw [mem_names]
 exact ⟨by decide, n, getG_mem hn⟩
theorem filter_one {L : List ByteArray} (hn : L.Nodup) {x : ByteArray} (hx : x ∈ L) : L.filter (fun s => decide (s = x)) = [x] := by
 induction L with
 | nil => cases hx
 | cons y L ih =>
   obtain ⟨h1, h2⟩ := List.nodup_cons.1 hn
   by_cases e : y = x
   · subst e
     rw [List.filter_cons_of_pos (by simp)]
     congr 1
     rw [List.filter_eq_nil_iff]
     intro z hz
     simp only [decide_eq_true_eq]
     rintro rfl
     exact h1 hz
   · rw [List.filter_cons_of_neg (by simpa using e)]
     exact ih h2 ((List.mem_cons.1 hx).resolve_left fun h => e h.symm)
theorem fnames_d {S : St} (hS : WfS S) (h : kindM S.m [47, 100] = 2) : fnamesB S slB dB = [dB] := by
 unfold fnamesB
 rw [dots_d]
 simp only [Bool.false_eq_true, if_false]
 rw [show slB.data.toList = [47] from rfl, list_root]
 unfold namesOf
 rw [show keepN dB = fun s => decide (s = dB) from funext keep_d, filter_one]
 · rfl
 · exact (namesS_rise hS [47]).imp fun {a b} hab e => by rw [e, sLt_irr] at hab; cases hab
 · exact List.mem_map.2 ⟨[100], d_in hS h, rfl⟩
theorem fnames_star {S : St} (hS : WfS S) (h : kindM S.m [47, 100] = 2) : fnamesB S sldB starB = namesD S := by
 unfold fnamesB
 rw [dots_star]
 simp only [Bool.false_eq_true, if_false]
 rw [show sldB.data.toList = [47, 100] from rfl, list_dir h]
 unfold namesOf
 rw [show keepN starB = visB from funext keep_star]
 have := foldS_rise (namesD S) [] (by rw [List.nil_append]; exact (namesS_rise hS [47, 100]).filter visB)
 rw [List.nil_append] at this
 exact this
theorem go_d : goSp (slB, slB) dB = (sldB, sldB) := of_decide_eq_true (by kernel_rfl)
theorem trim_d : Lib.trimSuffix [47, 100] [47] = ([47, 100] : T) := rfl
theorem go_star (n : ByteArray) : (goSp (sldB, sldB) n).1 = bs ([47, 100, 47] ++ n.data.toList) := by
 unfold goSp
 dsimp only
 rw [if_neg (by decide), show sldB.data.toList = [47, 100] from rfl, trim_d]
 apply ByteArray.ext
 apply Array.toList_inj.1
 rw [ByteArray.data_append, ByteArray.data_append, Array.toList_append, Array.toList_append, bs_list, bs_list]
 rfl
theorem now_two {S : St} (hS : WfS S) (h : kindM S.m [47, 100] = 2) : nowB S [dB, starB] (slB, slB) 2 = (namesD S).map (goSp (sldB, sldB)) := by
 have e1 : nowB S [dB, starB] (slB, slB) 1 = [(sldB, sldB)] := by
   show (stepB S (firstB [(slB, slB)]) dB).filter (fun x => !keepB S dB x) = _
   rw [show firstB [(slB, slB)] = [(slB, slB)] from rfl]
   unfold stepB
   rw [List.flatMap_singleton, fnames_d hS h, List.map_singleton, go_d]
   rw [List.filter_cons_of_pos, List.filter_nil]
   unfold keepB
   rw [show sldB.data.toList = [47, 100] from rfl, kind_dir, h]
   rfl
 show stepB S (firstB (nowB S [dB, starB] (slB, slB) 1)) starB = _
 rw [e1, show firstB [(sldB, sldB)] = [(sldB, sldB)] from rfl]
 unfold stepB
 rw [List.flatMap_singleton, fnames_star hS h]
theorem namesD_len {S : St} (hS : WfS S) : (namesD S).length ≤ S.nodes := by
 unfold namesD
 refine Nat.le_trans (List.length_filter_le _ _) ?_
 rw [List.length_map]
 exact Nat.le_trans (names_cnt _ _) hS.nodes
theorem first_two {S : St} (hS : WfS S) (hn : S.nodes ≤ 500) : firstB ((namesD S).map (goSp (sldB, sldB))) = (namesD S).map (goSp (sldB, sldB)) := by
 unfold firstB sortSp
 rw [foldG_rise _ [] ?_, List.nil_append, List.take_of_length_le]
 · rw [List.length_map]
   exact Nat.le_trans (namesD_len hS) hn
 · rw [List.nil_append, List.pairwise_map]
   refine ((namesS_rise hS [47, 100]).filter visB).imp fun {a b} hab => ?_
   rw [go_star, go_star, sLt_bs, decide_eq_true_iff]
   rw [sLt_iff] at hab
   simpa using hab
theorem stars_out {S : St} (hS : WfS S) (hn : S.nodes ≤ 500) (h : kindM S.m [47, 100] = 2) : outB S (slB, slB) stP stP = orSt (wantSt S) := by
 unfold outB
 rw [st_pat.2.2]
 show (if firstB (nowB S [dB, starB] (slB, slB) 2) = [] then _ else (firstB (nowB S [dB, starB] (slB, slB) 2)).map (·.1)) = _
 rw [now_two hS h, first_two hS hn]
 unfold orSt wantSt
 by_cases e : namesD S = []
 · rw [e]; rfl
 · rw [if_neg (by simpa using e), if_neg (by simpa using e), List.map_map]
   apply List.map_congr_left
   intro n _
   exact go_star n
theorem write_dir {S : St} {q : T} (hq : kindM S.m q = 2) (p b : T) (more : Bool) : kindM (writeS S p b more).1.m q = 2 := by
 unfold writeS
 split
 · exact hq
 · unfold writeQ
   split
   · exact hq
   · rename_i hk
     dsimp only
     generalize (if kindM S.m (absS S p).1 = 0 then 1 else 0) = z
     generalize (if more = true then dataM S.m (absS S p).1 else []) = was
     split
     · show kindM (putG (bs (absS S p).1, _) S.m) q = 2
       rw [kind_put]
       · exact hq
       · intro e
         have := bs_inj e
         rw [this] at hk
         exact hk hq
     · exact hq
structure StarS (S : St) (n : Nat) : Prop where
 wf : WfS S
 nodes : S.nodes = 40
 bytes : S.bytes = 100
 clock : S.clock ≤ n
 dir : kindM S.m [47, 100] = 2
theorem star_cs (S : St) (p b : T) (more : Bool) : (writeS S p b more).1.nodes = S.nodes ∧ (writeS S p b more).1.bytes = S.bytes ∧ (writeS S p b more).1.clock ≤ S.clock + 1 := by
 unfold writeS
 split
 · exact ⟨rfl, rfl, Nat.le_succ _⟩
 · unfold writeQ
   split
   · exact ⟨rfl, rfl, Nat.le_succ _⟩
   · dsimp only
     generalize (if kindM S.m (absS S p).1 = 0 then 1 else 0) = z
     generalize (if more = true then dataM S.m (absS S p).1 else []) = was
     split
     · exact ⟨rfl, rfl, Nat.le_refl _⟩
     · exact ⟨rfl, rfl, Nat.le_succ _⟩
theorem StarS.wr {S : St} {n : Nat} (h : StarS S n) (p b : T) (more : Bool) : StarS (writeS S p b more).1 (n + 1) := by
 obtain ⟨h1, h2, h3⟩ := star_cs S p b more
 exact ⟨writeS_wf h.wf _ _ _, h1.trans h.nodes, h2.trans h.bytes, by have := h.clock; omega, write_dir h.dir _ _ _⟩
def stS0 : St := (mkdirS (newS 40 100) [47, 100]).1
theorem stS0_ok : StarS stS0 1 := ⟨mkdirS_wf (newS_wf 40 100) _, rfl, rfl, by decide +kernel, by decide +kernel⟩
end
section
open Go.RowKit Go.Deep Ln
attribute [local go_sem] bt_eq
theorem getD_nat (l : T) (k : Nat) (n : Nat) (hn : n < 256) : ((((bt (bs l) k : Nat) : Int) == (n : Int))) = decide (l.getD k 0 = UInt8.ofNat n) := by
 rw [bt_bs, Bool.eq_iff_iff]
 simp only [beq_iff_eq, decide_eq_true_eq]
 constructor
 · intro h
   have : (l.getD k 0).toNat = n := by omega
   rw [← this]; simp
 · intro h
   rw [h]
   simp [UInt8.toNat_ofNat']
   omega
def ixFrom (l : T) (c : UInt8) (k : Nat) : Int := if Lib.indexByte (l.drop k) c = -1 then -1 else (k : Int) + Lib.indexByte (l.drop k) c
theorem rat0_any (l : T) (c : UInt8) (w : World) (h : l.length ≤ 281474976710656) : Calls Tryz.prog 18 #[.string (bs l), .int .u8 c.toNat] w fun e w' => e = .returned (.int .i64 (Lib.indexByte l c)) ∧ w = w' := by
 have hz : (bs l).size = l.length := bs_size l
 have hz1 : (bs l).size ≤ 281474976710656 := by omega
 have HZ := hide hz
 have HR0 := hide (show ixFrom l c 0 = Lib.indexByte l c by unfold ixFrom; rw [List.drop_zero]; split <;> omega)
 have hc256 : c.toNat < 256 := c.toNat_lt
 obtain ⟨R, hR⟩ : ∃ R, Lib.indexByte l c = R := ⟨_, rfl⟩
 rw [hR] at HR0 ⊢
 clear hz hR
 go_enter Tryz.func18, Tryz.ntmps18
 go_wp2
 go_loop [5] (fun v5 => ∃ k : Nat, v5 = .int .i64 k ∧ k ≤ (bs l).size ∧ Hid (ixFrom l c k = R)) (fun v5 => (bs l).size - (intOf v5).toNat)
 case atStart => exact ⟨0, rfl, by omega, HR0⟩
 case round =>
   obtain ⟨k, rfl, hk, HR⟩ := hrel
   by_cases hlt : k < (bs l).size
   · have hkl : k < l.length := by have := HZ.out; omega
     have q := getD_nat l k c.toNat hc256
     have hd : l.drop k = l.getD k 0 :: l.drop (k + 1) := by
       rw [List.drop_eq_getElem_cons hkl]; simp [hkl]
     by_cases he : l.getD k 0 = c
     · have g1 : (((bt (bs l) k : Nat) : Int) == ((c.toNat : Nat) : Int)) = true := by rw [q]; simpa using he
       have HE := hide (show (k : Int) = R by rw [← HR.out]; unfold ixFrom; rw [hd, Lib.indexByte, he]; simp)
       clear q hd he
       go_wp2
       go_ret
       refine ⟨?_, rfl⟩
       rw [← HE.out]
       rfl
     · have g1 : (((bt (bs l) k : Nat) : Int) == ((c.toNat : Nat) : Int)) = false := by rw [q]; simpa using he
       have HE := hide (show ixFrom l c (k + 1) = R by
         rw [← HR.out]
         unfold ixFrom
         have hne : (l.getD k 0 == c) = false := by simpa using he
         rw [hd, Lib.indexByte, hne]
         simp only [Bool.false_eq_true, if_false]
         have := ixb_ge c (l.drop (k + 1))
         by_cases h1 : Lib.indexByte (l.drop (k + 1)) c = -1
         · rw [h1]; rfl
         · have hb : (Lib.indexByte (l.drop (k + 1)) c == -1) = false := by simpa using h1
           rw [hb, if_neg h1]
           simp only [Bool.false_eq_true, if_false]
           rw [if_neg (by omega)]
           omega)
       clear q hd he
       go_wp2
       go_round
       case rel => exact ⟨k + 1, by go_num, by omega, HE⟩
       case measure => simp [intOf]; omega
   · have HE := hide (show (-1 : Int) = R by
       rw [← HR.out]
       unfold ixFrom
       rw [List.drop_of_length_le (by have := HZ.out; omega)]
       rfl)
     go_wp2
     go_ret
     refine ⟨?_, rfl⟩
     rw [← HE.out]
     rfl
end
section
open Go.RowKit Go.Deep Go.Maps Ln Pth Vf Qm.Glob Qm.Base
attribute [local go_sem] bt_eq
theorem TA.mkd {b : Nat} {w0 wr : World} {S : St} (h : TA b w0 S wr) (h0 : w0.heap.size ≤ b) (hm : MX w0) (hS : WfS S) (hck : S.clock ≤ 1000000000) (p : T) (hp : p.length ≤ 50000) :
   Calls Tryz.prog 17 #[.pointer (some ⟨b + 1, 0, none⟩), .string (bs p)] wr fun e w' => e = .returned (.int .i64 (mkdirS S p).2) ∧ TA b w0 (mkdirS S p).1 w' := by
 obtain ⟨N, hv, ok, hb⟩ := h
 refine (mkdir_any (b + 1) S p (T0 b) N wr hv ok hS (hm.below hb) hp hck).mono ?_
 rintro e w' ⟨rfl, N', hv', hg, hk⟩
 exact ⟨rfl, N', hv', hg.2.2.2, hk.below hb (Nat.le_refl _) (fun k h => by unfold T0 at h; omega)⟩
theorem stp_pb {l : T} (h : 47 ∉ l) (hz : l.length ≤ 140737488351232) : PB ([47, 100, 47] ++ l) := by
 refine ⟨by simp; omega, ?_⟩
 have e : ([47, 100, 47] ++ l : T) = [] ++ 47 :: ([100] ++ 47 :: l) := rfl
 rw [e, spl_app _ (by simp), spl_app _ (by decide), spl_none h]
 simp
theorem star_paths {gF : Nat} {S : St} {n : Nat} (hS : StarS S n) (w W : World) (hv : Hs (VS gF S) w) (hm : MX w) (hb : Below w.heap.size w W) :
   Calls Tryz.prog 21 #[.pointer (some ⟨gF, 0, none⟩), .string ⟨#[47]⟩, .slice (some ⟨W.heap.size, 0, none⟩) 1 1] (W.alloc (.cells #[.int .i64 1, .string stP, .string ⟨#[]⟩, .string ⟨#[]⟩, .slice none 0 0, .bool false] tyP)) fun e w' => ∃ A c, e = .returned (.slice A (orSt (wantSt S)).length c) ∧ SR w' A (orSt (wantSt S)) ∧ Below W.heap.size W w' := by
 have hrow : RG encPt 6 (W.alloc (.cells #[.int .i64 1, .string stP, .string ⟨#[]⟩, .string ⟨#[]⟩, .slice none 0 0, .bool false] tyP)) (some ⟨W.heap.size, 0, none⟩) [ptK 1 stP] := rg_new (enc := encPt) W (ptK 1 stP) tyP
 have hba := hb.alloc hb.size (.cells #[.int .i64 1, .string stP, .string ⟨#[]⟩, .string ⟨#[]⟩, .slice none 0 0, .bool false] tyP)
 have hpat : bsF (patS [ptK 1 stP]) = stP := by rw [pat_one]; rfl
 have htx : textS [ptK 1 stP] = stP.data.toList := by simp [textS, ptK]
 have htx2 : bsF (textS [ptK 1 stP]) = stP := by
   rw [htx]
   exact bs_of stP
 have := paths_some gF S ⟨#[47]⟩ (some ⟨W.heap.size, 0, none⟩) 1 [ptK 1 stP] _ (fsOk_of hS.wf (by have := hS.nodes; omega)) (hv.below (VS.fr _ _) hba) (hm.below hba) (by decide) hrow (by simp) (by intro q hq; rw [List.mem_singleton.1 hq]; decide) (by rw [htx]; decide) (by rw [hpat]; decide) (by rw [hpat]; exact st_pat.1) (slB, slB) (by rw [hpat]; exact st_pat.2.1)
 rw [hpat, htx2, stars_out hS.wf (by have := hS.nodes; omega) hS.dir] at this
 refine this.mono ?_
 rintro e w' ⟨⟨v, rfl, ho⟩, hb'⟩
 obtain ⟨A, c, rfl, _, hs, _⟩ := ho.slice
 have hb0 : Below W.heap.size W (W.alloc (.cells #[.int .i64 1, .string stP, .string ⟨#[]⟩, .string ⟨#[]⟩, .slice none 0 0, .bool false] tyP)) := (Below.refl _ _).alloc (Nat.le_refl _) _
 exact ⟨A, c, rfl, hs, hb0.trans (hb'.mono hb0.size)⟩
def wantK (NM : List T) (k : Nat) : List ByteArray := (((NM.take k).map bs).filter visB).map fun n => bs ([47, 100, 47] ++ n.data.toList)
theorem wantK_succ {NM : List T} {k : Nat} {n : T} (h : NM[k]? = some n) : wantK NM (k + 1) = wantK NM k ++ (if visB (bs n) then [bs ([47, 100, 47] ++ n)] else []) := by
 unfold wantK
 rw [List.take_add_one, h, List.map_append, List.filter_append, List.map_append]
 congr 1
 show List.map _ (List.filter visB [bs n]) = _
 cases hv : visB (bs n) with
 | true => simp [hv, bs_list]
 | false => simp [hv]
theorem wantK_len (NM : List T) (k : Nat) : (wantK NM k).length ≤ NM.length := by
 unfold wantK
 rw [List.length_map]
 refine Nat.le_trans (List.length_filter_le _ _) ?_
 rw [List.length_map, List.length_take]
 omega
theorem visB_bs {n : T} (h : n ≠ []) : visB (bs n) = decide (bt (bs n) 0 ≠ 46) := by
 unfold visB dotS
 have hz : 0 < (bs n).size := by rw [bs_size]; exact List.length_pos_iff.2 h
 rw [decide_eq_true hz, Bool.true_and]
 by_cases e : bt (bs n) 0 = 46
 · simp [e]
 · simp [e]
theorem law_fieldStars (K : Nat) (hK : K ≤ 140737488351232) (A : Option Addr) (c : Nat) (L : List ByteArray) (qd : Bool) (m0 : L.length ≤ maxLen) (s0 : ∀ x ∈ L, x.size ≤ K) (w : World) (hm : MX w) (hA : SR w A L) :
   Calls Tryz.prog 4 #[.slice A L.length c, .bool qd] w fun e w' => e = .returned (.bool true) ∧ Below w.heap.size w w' := by
 unfold maxLen at m0
 have HM := hide hm
 have HA := hide hA
 have HS := hide s0
 obtain ⟨n, hn⟩ : ∃ n, L.length = n := ⟨_, rfl⟩
 have HN := hide hn
 rw [hn] at m0 ⊢
 clear hm hA s0 hn
 have hl1 : (n : Int) ≤ 9223372036854775807 := by omega
 go_enter Tryz.func4, Tryz.ntmps4
 go_wp2_with fail
 refine (alive12_any _).mono ?_
 rintro e w1 ⟨rfl, hb1⟩
 have HB1 := hide hb1
 clear hb1
 by_cases c1 : 20 < n
 · have d1 : (20 : Int) < (n : Int) := by omega
   go_wp2
   go_ret
   exact ⟨rfl, HB1.out⟩
 have d1 : (n : Int) ≤ 20 := by omega
 have hn20 : n ≤ 20 := by omega
 have HNW := hide (vnew_any 40 100 w1 (by decide) (by decide) (by decide) (by decide))
 go_wp2_with fail
 refine HNW.out.mono ?_
 rintro e w2 ⟨rfl, hb2, hv2, hz2⟩
 have hta := TA.new (w0 := w) HB1.out 40 100 hb2 hv2 hz2
 have HMK := hide (hta.mkd HB1.out.size HM.out (newS_wf 40 100) (by decide) [47, 100] (by decide))
 clear hb2 hv2 hz2 hta HNW
 obtain ⟨b, hb⟩ : ∃ b, w1.heap.size = b := ⟨_, rfl⟩
 have hb0 : w.heap.size ≤ b := hb ▸ HB1.out.size
 rw [hb] at HMK ⊢
 clear hb
 go_wp2_with fail
 refine HMK.out.mono ?_
 rintro e w3 ⟨rfl, ht3⟩
 have HT3 := hide (show TA b w stS0 w3 from ht3)
 clear ht3 HMK
 go_wp2_with fail
 go_loopw [7] (fun v7 wr => ∃ (i : Nat) (S : St), v7 = .int .i64 i ∧ i ≤ n ∧ Hid (StarS S (i + 1)) ∧ Hid (TA b w S wr)) (fun v7 _ => n - (intOf v7).toNat)
 case atStart => exact ⟨0, stS0, rfl, by omega, stS0_ok, HT3⟩
 case round =>
   obtain ⟨ws, hws⟩ : ∃ Z, Z = wr := ⟨_, rfl⟩
   subst hws
   obtain ⟨i, S, rfl, hi, HSS, HT⟩ := hrel
   clear HT3
   by_cases hlt : i < n
   case pos =>
     obtain ⟨x, hx⟩ : ∃ x, L[i]? = some x := ⟨L[i]'(by have := HN.out; omega), gE _⟩
     have hxs := HS.out x (List.mem_of_getElem? hx)
     obtain ⟨g, o, rfl, hg, hc⟩ := (HA.out.below HT.out.below) i x hx
     have b1 : (i : Int) < (n : Int) := by omega
     clear hx
     obtain ⟨l, rfl⟩ : ∃ l : T, x = bs l := ⟨x.data.toList, by simp [bs]⟩
     rw [bs_size] at hxs
     have HA1 := hide (rat0_any l 47 · (by omega))
     have m1 := ixb_mem 47 l
     obtain ⟨p1, hp1⟩ : ∃ p, Lib.indexByte l 47 = p := ⟨_, rfl⟩
     rw [hp1] at HA1 m1
     have HM1 := hide m1
     clear hp1 m1
     by_cases q1 : 0 ≤ p1
     · go_wp2_with fail
       refine (HA1.out _).mono ?_
       rintro e w' ⟨rfl, rfl⟩
       go_wp2
       go_ret
       exact ⟨rfl, HT.out.below⟩
     have hns : 47 ∉ l := fun h => q1 (HM1.out.2 h)
     have hcl : S.clock ≤ 1000000000 := by have := HSS.out.clock; omega
     have HWR := hide (HT.out.writeL hb0 HM.out HSS.out.wf (by have := HSS.out.bytes; omega) hcl ([47, 100, 47] ++ l) (stp_pb hns (by omega)) [] (by decide) false none 0 (RG.nil _ _))
     have HNX := hide (HSS.out.wr ([47, 100, 47] ++ l) [] false)
     have hpp : (⟨#[47, 100, 47]⟩ : ByteArray) ++ bs l = bs ([47, 100, 47] ++ l) := bs_app [47, 100, 47] l
     have hzz : ¬ 9223372036854775807 < (3 : Nat) + (bs l).size := by rw [bs_size]; omega
     obtain ⟨px, hpx⟩ : ∃ z, bs ([47, 100, 47] ++ l) = z := ⟨_, rfl⟩
     rw [hpx] at HWR hpp
     have HPP := hide hpp
     have q2 : decide (0 ≤ p1) = false := decide_eq_false q1
     clear hpx hpp hns hcl q1
     go_wp2_with fail
     refine (HA1.out _).mono ?_
     rintro e w' ⟨rfl, rfl⟩
     go_wp2_with fail
     rw [HPP.out]
     refine HWR.out.mono ?_
     rintro e w5 ⟨rfl, ht5, _⟩
     have HT5 := hide ht5
     clear ht5 hc hg hzz HWR HA1
     go_wp2
     go_roundw
     case rel => exact ⟨i + 1, _, by go_num, by omega, HNX, HT5⟩
     case measure => simp [intOf]; omega
   case neg =>
     obtain rfl : i = n := by omega
     have hdir := HSS.out.dir
     have hll := list_dir hdir
     have HLI := hide (list_any (b + 1) S HSS.out.wf [47, 100] ws HT.out.hs (HM.out.below HT.out.below) (by decide))
     rw [hll] at HLI
     unfold ListPost at HLI
     dsimp only at HLI
     have hnz := fun x (hx : x ∈ namesM S.m [47, 100]) => And.intro (names_ne HSS.out.wf hx) (names_sz HSS.out.wf hx)
     have hnc := names_cnt S.m [47, 100]
     have hnd := HSS.out.nodes
     have hnn := HSS.out.wf.nodes
     have HWT := hide (show wantK (namesM S.m [47, 100]) (namesM S.m [47, 100]).length = wantSt S by
       unfold wantK wantSt namesD
       rw [List.take_length])
     have HHS := hide HT.out.hs
     have HBS := hide HT.out.below
     obtain ⟨NM, hNM⟩ : ∃ z, namesM S.m [47, 100] = z := ⟨_, rfl⟩
     rw [hNM] at HLI hnz hnc HWT
     obtain ⟨nm, hnm⟩ : ∃ z, NM.length = z := ⟨_, rfl⟩
     have hnm40 : nm ≤ 40 := by omega
     have HNZ := hide hnz
     have HNM := hide hnm
     have hmap : (NM.map bs).length = nm := by rw [List.length_map, hnm]
     have HMAP := hide hmap
     rw [hnm] at HWT
     clear hnz hnc hnd hnn hNM hdir hll hnm hmap HT
     go_wp2_with fail
     refine HLI.out.mono ?_
     rintro e w4 ⟨⟨v, rfl, hov⟩, hb4⟩
     obtain ⟨A8, c8, rfl, _, hsr8, _⟩ := hov.slice
     have HS8 := hide hsr8
     have HB4 := hide hb4
     rw [HMAP.out]
     clear hov hsr8 hb4 HLI
     go_wp2_with fail
     go_loopw [10, 11] (fun v10 v11 wr => ∃ k : Nat, v11 = .int .i64 k ∧ k ≤ nm ∧ Hid (OwnS wr w4.heap.size v10 (wantK NM k)) ∧ Hid (Below w4.heap.size w4 wr)) (fun _ v11 _ => nm - (intOf v11).toNat)
     case atStart => exact ⟨0, rfl, by omega, hide (by unfold wantK; simp; exact OwnS.nil _ _), hide (Below.refl _ _)⟩
     case round =>
       obtain ⟨wk, hwk⟩ : ∃ Z, Z = wr := ⟨_, rfl⟩
       subst hwk
       obtain ⟨k, rfl, hk, HO, HB⟩ := hrel
       have hwl := wantK_len NM k
       rw [HNM.out] at hwl
       by_cases hkl : k < nm
       case pos =>
         obtain ⟨x, hx⟩ : ∃ x, NM[k]? = some x := ⟨NM[k]'(by have := HNM.out; omega), gE _⟩
         obtain ⟨hne, hxz⟩ := HNZ.out x (List.mem_of_getElem? hx)
         obtain ⟨g, o, rfl, hg, hc⟩ := (HS8.out.below HB.out) k (bs x) (by rw [List.getElem?_map, hx]; rfl)
         have hws := wantK_succ hx
         have hvis := visB_bs hne
         have hsz : 0 < (bs x).size := by rw [bs_size]; exact List.length_pos_iff.2 hne
         have hsz2 : (bs x).size ≤ 200 := by rw [bs_size]; exact hxz
         have hyy : (⟨#[47, 100, 47]⟩ : ByteArray) ++ bs x = bs ([47, 100, 47] ++ x) := bs_app [47, 100, 47] x
         have b1 : (k : Int) < (nm : Int) := by omega
         have hs0 : (0 : Int) < ((bs x).size : Int) := by omega
         obtain ⟨y, hy⟩ : ∃ y, bs ([47, 100, 47] ++ x) = y := ⟨_, rfl⟩
         rw [hy] at hws hyy
         obtain ⟨xb, hxb⟩ : ∃ y, bs x = y := ⟨_, rfl⟩
         rw [hxb] at hws hyy hvis hsz hsz2 hs0 hc
         have HYY := hide hyy
         obtain ⟨vA, vc, rfl, hvc, _, _⟩ := HO.out.slice
         obtain ⟨ln, hln⟩ : ∃ z, (wantK NM k).length = z := ⟨_, rfl⟩
         rw [hln] at HO hwl hvc ⊢
         have HLN := hide hln
         clear hx hne hxz hy hxb hyy hln
         have hzz : ¬ 9223372036854775807 < (3 : Nat) + xb.size := by omega
         by_cases hv : bt xb 0 = 46
         case pos =>
           have hvF : visB xb = false := by rw [hvis, decide_eq_false (by simpa using hv)]
           rw [hvF] at hws
           have HWN := hide (show wantK NM (k + 1) = wantK NM k by simpa using hws)
           have hvi : (bt xb 0 : Int) = 46 := by omega
           clear hws hvis hvF hv
           go_wp2
           go_roundw
           case rel => exact ⟨k + 1, by go_num, by omega, by rw [HWN.out]; exact HO, HB⟩
           case measure => simp [intOf]; omega
         case neg =>
           have hvT : visB xb = true := by rw [hvis, decide_eq_true hv]
           rw [hvT] at hws
           have HWN := hide (show wantK NM (k + 1) = wantK NM k ++ [y] by simpa using hws)
           have hvi : ¬ (bt xb 0 : Int) = 46 := by omega
           clear hws hvis hvT hv
           obtain ⟨v5, w5, r5, o5, g5, b5⟩ := run_appS (c := 1) (OwnS.alloc HO.out (.cells #[.string (⟨#[47, 100, 47]⟩ ++ xb)] 9)) (sr_new wk (⟨#[47, 100, 47]⟩ ++ xb)) (by simp; have := HB.out.size; omega) (by rw [HLN.out]; simp; omega)
           have HR5 := hide r5
           have HO5 := hide (show OwnS w5 w4.heap.size v5 (wantK NM (k + 1)) by rw [HWN.out, ← HYY.out]; exact o5)
           have HB5 := hide (show Below w4.heap.size w4 w5 from (HB.out.alloc HB.out.size (.cells #[.string (⟨#[47, 100, 47]⟩ ++ xb)] 9)).grown g5 (by simp; have := HB.out.size; omega) (fun q hq => (World.ownsRow.lt HO.out q hq).1))
           clear r5 o5 g5 b5
           go_wp2_with (at_builtin; refine wpList_app_run ?_ (.tmp 61) (.tmp 67) ?_ ?_ ?_ ?_ HR5.out ?_; exact rfl; exact rfl; exact rfl; exact rfl; exact rfl)
           go_roundw
           case rel => exact ⟨k + 1, by go_num, by omega, HO5, HB5⟩
           case measure => simp [intOf]; omega
       case neg =>
         obtain rfl : k = nm := by omega
         have hwt : (wantK NM k) = wantSt S := HWT.out
         rw [hwt] at HO hwl
         obtain ⟨A10, c10, rfl, _, hs10, _⟩ := HO.out.slice
         obtain ⟨ln, hln⟩ : ∃ z, (wantSt S).length = z := ⟨_, rfl⟩
         rw [hln] at hwl ⊢
         have HLN := hide hln
         have HS10 := hide hs10
         have HV := hide HHS.out
         have HMS := hide (HM.out.below HBS.out)
         have HBK := hide (HB4.out.trans (HB.out.mono HB4.out.size))
         clear hwt hs10 hln HO HS8 HNZ HMAP
         cases qd with
         | true =>
           go_upto_if 74 with (fail)
           go_cut [10] from 74 to 75 (fun v10 wx => ∃ A c, v10 = .slice A 1 c ∧ SR wx A [stP] ∧ Below wk.heap.size wk wx)
           case first =>
             go_wp2
             go_meet
             exact ⟨_, _, rfl, sr_new wk stP, (Below.refl _ _).alloc (Nat.le_refl _) _⟩
           case rest =>
             obtain ⟨A9, c9, rfl, hs9, hb9⟩ := hcut
             have hrow : RG encPt 6 (wc.alloc (.cells #[.int .i64 2, .string stP, .string ⟨#[]⟩, .string ⟨#[]⟩, .slice none 0 0, .bool false] tyP)) (some ⟨wc.heap.size, 0, none⟩) [ptK 2 stP] := rg_new (enc := encPt) wc (ptK 2 stP) tyP
             have hq := quoted_plain stP
             have HPP := hide (paths_plain (b + 1) ⟨#[47]⟩ (some ⟨wc.heap.size, 0, none⟩) 1 [ptK 2 stP] _ hrow (by simp) (by intro p hp; rw [List.mem_singleton.1 hp]; decide) stP (by rw [pat_one]; decide +kernel) (by rw [pat_one, patP_quote]; exact hq.1) (by rw [pat_one, patP_quote, hq.2]; exact sb_bytes stP))
             have hba : Below wk.heap.size wk (wc.alloc (.cells #[.int .i64 2, .string stP, .string ⟨#[]⟩, .string ⟨#[]⟩, .slice none 0 0, .bool false] tyP)) := hb9.alloc hb9.size _
             have HS9 := hide (hs9.below ((Below.refl _ _).alloc (Nat.le_refl _) (.cells #[.int .i64 2, .string stP, .string ⟨#[]⟩, .string ⟨#[]⟩, .slice none 0 0, .bool false] tyP)))
             have HB9 := hide (HBK.out.trans (hba.mono HBK.out.size))
             clear hs9 hb9 hrow hq hba HS10
             go_wp2_with fail
             refine HPP.out.mono ?_
             rintro e w11 ⟨⟨g11, rfl, hs11⟩, hb11⟩
             have HSA := hide (same_any (some ⟨g11, 0, none⟩) A9 1 c9 [stP] [stP] w11 hs11 (HS9.out.below hb11) (by simp))
             rw [decide_eq_true (rfl : [stP] = [stP])] at HSA
             have HB11 := hide (HBS.out.trans ((HB9.out.trans (hb11.mono HB9.out.size)).mono HBS.out.size))
             clear hs11 hb11 HPP
             go_wp2_with fail
             refine HSA.out.mono ?_
             rintro e w12 ⟨rfl, hd12⟩
             have HB12 := hide (HB11.out.trans (hd12.below.mono HB11.out.size))
             clear hd12
             go_wp2
             go_ret
             exact ⟨by simp, HB12.out⟩
         | false =>
           go_upto_if 74 with (fail)
           go_cut [10] from 74 to 75 (fun v10 wx => ∃ A c, v10 = .slice A (orSt (wantSt S)).length c ∧ SR wx A (orSt (wantSt S)) ∧ Below wk.heap.size wk wx)
           case first =>
             by_cases h0 : ln = 0
             · subst h0
               have HE := hide (show orSt (wantSt S) = [stP] by unfold orSt; rw [if_pos (List.eq_nil_of_length_eq_zero HLN.out)])
               go_wp2
               go_meet
               rw [HE.out]
               exact ⟨_, _, rfl, sr_new wk stP, (Below.refl _ _).alloc (Nat.le_refl _) _⟩
             · have HE := hide (show orSt (wantSt S) = wantSt S by
                 unfold orSt
                 rw [if_neg (fun h => h0 (by rw [← HLN.out, h]; rfl))])
               have h0' : ¬ (ln : Int) = 0 := by omega
               go_wp2
               go_meet
               rw [HE.out, HLN.out]
               exact ⟨_, _, rfl, HS10.out, Below.refl _ _⟩
           case rest =>
             obtain ⟨A9, c9, rfl, hs9, hb9⟩ := hcut
             have hol : (orSt (wantSt S)).length ≤ 100000 := by
               unfold orSt
               split
               · simp
               · rw [HLN.out]; omega
             have HPP := hide (star_paths HSS.out wk wc (HV.out.below (VS.fr _ _) HBK.out) (HMS.out.below HBK.out) hb9)
             obtain ⟨O, hO⟩ : ∃ z, orSt (wantSt S) = z := ⟨_, rfl⟩
             rw [hO] at HPP hs9 hol ⊢
             have HS9 := hide hs9
             have HB9 := hide (HBK.out.trans (hb9.mono HBK.out.size))
             have HOL := hide hol
             clear hs9 hb9 hol hO HS10
             go_wp2_with fail
             refine HPP.out.mono ?_
             rintro e w11 ⟨A11, c11, rfl, hs11, hb11⟩
             have HSA := hide (same_any A11 A9 c11 c9 O O w11 hs11 (HS9.out.below hb11) HOL.out)
             rw [decide_eq_true (rfl : O = O)] at HSA
             have HB11 := hide (HBS.out.trans ((HB9.out.trans (hb11.mono HB9.out.size)).mono HBS.out.size))
             clear hs11 hb11 HPP
             go_wp2_with fail
             refine HSA.out.mono ?_
             rintro e w12 ⟨rfl, hd12⟩
             have HB12 := hide (HB11.out.trans (hd12.below.mono HB11.out.size))
             clear hd12
             go_wp2
             go_ret
             exact ⟨by simp, HB12.out⟩
end
end Go.Proofs.YtmcophlmcloooaaGreatDoor
