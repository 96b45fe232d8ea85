/- Walks and plain facts that the claim uses. -/
import Derived.Test.YtpheeheikigenaaGreatDoorRA3
import Derived.Deep.CutBlock
set_option maxRecDepth 100000
set_option maxHeartbeats 16000000
set_option linter.unusedSimpArgs false
set_option linter.unusedVariables false
namespace Go.Proofs.YtpheeheikigenaaGreatDoor
namespace Rd
open Go.RowKit Ln Pth Vf Mc
theorem low_okw {w : T} (h : low w) (hn : w ≠ []) : okw w := ⟨hn, fun c hc => ⟨low_ne h (by decide) c hc, low_ne h (by decide) c hc, low_ne h (by decide) c hc, low_ne h (by decide) c hc, low_ne h (by decide) c hc, fun e => low_ne h (x := 92) (by decide) c hc e⟩⟩
theorem low_wblk {c : UInt8} (h : 97 ≤ c ∧ c ≤ 122) : wblk c = false := by
 have hh : ∀ x : UInt8, x < 97 → c ≠ x := fun x hx e => by
   have := h.1
   rw [e, UInt8.le_iff_toNat_le] at this
   rw [UInt8.lt_iff_toNat_lt] at hx
   omega
 unfold wblk
 simp [hh 32 (by decide), hh 9 (by decide), hh 10 (by decide)]
theorem words_app : ∀ (w acc t : T), (∀ c ∈ w, wblk c = false) → wordsF (w ++ t) acc = wordsF t (acc ++ w)
 | [], acc, t, _ => by simp
 | c :: w, acc, t, h => by
   rw [List.cons_append, wordsF, if_neg (by rw [h c (by simp)]; simp), words_app w _ t (fun d hd => h d (by simp [hd]))]
   simp
theorem words_jo {e : T} (he : ∀ w : T, w ≠ [] → wordsF e w = [w]) : ∀ (ws : List T) (w : T), (∀ x ∈ w :: ws, x ≠ [] ∧ ∀ c ∈ x, wblk c = false) → wordsF (Jo [32] (w :: ws) ++ e) [] = w :: ws
 | [], w, h => by
   have h1 := h w (by simp)
   have : Jo [32] [w] = w := by simp [Jo]
   rw [this, words_app w [] e h1.2, List.nil_append, he w h1.1]
 | v :: ws, w, h => by
   have h1 := h w (by simp)
   rw [Jo_cons, List.append_assoc, List.append_assoc, words_app w [] _ h1.2, List.nil_append]
   show wordsF (32 :: (Jo [32] (v :: ws) ++ e)) w = _
   rw [wordsF, if_pos (by decide), if_neg h1.1, words_jo he ws v (fun x hx => h x (List.mem_cons_of_mem _ hx))]
theorem words_joA {ws : List T} {e : T} (he : ∀ w : T, w ≠ [] → wordsF e w = [w]) (he0 : wordsF e [] = []) (h : ∀ x ∈ ws, x ≠ [] ∧ low x) : wordsF (Jo [32] ws ++ e) [] = ws := by
 cases ws with
 | nil =>
   have : Jo [32] [] = [] := by simp [Jo]
   rw [this]; exact he0
 | cons w ws => exact words_jo he ws w fun x hx => ⟨(h x hx).1, fun c hc => low_wblk ((h x hx).2 c hc)⟩
theorem Jo_memL {ws : List T} (h : ∀ x ∈ ws, x ≠ [] ∧ low x) {c : UInt8} (hc : c ∈ Jo [32] ws) : c = 32 ∨ (97 ≤ c ∧ c ≤ 122) := by
 induction ws with
 | nil => simp [Jo] at hc
 | cons w ws ih =>
   cases ws with
   | nil =>
     have : Jo [32] [w] = w := by simp [Jo]
     rw [this] at hc
     exact .inr ((h w (by simp)).2 c hc)
   | cons v ws =>
     rw [Jo_cons] at hc
     simp only [List.mem_append, List.mem_singleton] at hc
     rcases hc with (hc | hc) | hc
     · exact .inr ((h w (by simp)).2 c hc)
     · exact .inl hc
     · exact ih (fun x hx => h x (List.mem_cons_of_mem _ hx)) hc
theorem Jo_len {ws : List T} (h : ∀ x ∈ ws, x.length ≤ 30) : (Jo [32] ws).length ≤ 31 * ws.length := by
 induction ws with
 | nil => simp [Jo]
 | cons w ws ih =>
   have hw := h w (by simp)
   cases ws with
   | nil =>
     have : Jo [32] [w] = w := by simp [Jo]
     rw [this]; simp; omega
   | cons v ws =>
     have := ih (fun x hx => h x (List.mem_cons_of_mem _ hx))
     rw [Jo_cons]
     simp only [List.length_append, List.length_cons, List.length_nil] at this ⊢
     omega
theorem Jo_no {ws : List T} (h : ∀ x ∈ ws, x ≠ [] ∧ low x) {x : UInt8} (hx : x < 97) (h32 : x ≠ 32) : ∀ c ∈ Jo [32] ws, c ≠ x := by
 intro c hc e
 rcases Jo_memL h hc with h1 | h1
 · exact h32 (e ▸ h1)
 · have := h1.1
   rw [e, UInt8.le_iff_toNat_le] at this
   rw [UInt8.lt_iff_toNat_lt] at hx
   omega
def L3 : T := [36, 40, 120, 41, 58, 32, 36, 40, 121, 41, 32, 36, 40, 122, 41]
def L4 : T := [101, 99, 104, 111, 32, 36, 40, 120, 41]
def L5 : T := [122, 32, 61, 32, 108, 97, 116, 101, 114]
def L6 : T := [120, 32, 61, 32, 110, 101, 119]
def asgT (n : UInt8) (ws : List T) : T := n :: 32 :: 61 :: 32 :: Jo [32] ws
def expT (a b : List T) : T := asgT 120 a ++ 10 :: (asgT 121 b ++ 10 :: (L3 ++ 10 :: (9 :: L4 ++ 10 :: (L5 ++ 10 :: (L6 ++ 10 :: [])))))
theorem asg_line {n : UInt8} (hn : n = 120 ∨ n = 121) {ws : List T} (h : ∀ x ∈ ws, x ≠ [] ∧ low x) : ∃ l, linesA (cutL (asgT n ws)) = [(false, l)] ∧ defsF l = some ([n], [61], Jo [32] ws) := by
 have ho : okc n := by rcases hn with rfl | rfl <;> (unfold okc; decide)
 cases ws with
 | nil =>
   refine ⟨[n, 32, 61], ?_, ?_⟩ <;> rcases hn with rfl | rfl <;> rfl
 | cons w ws =>
   have hw := h w (by simp)
   have hws : ∀ x ∈ ws, okw x := fun x hx => low_okw (h x (by simp [hx])).2 (h x (by simp [hx])).1
   obtain ⟨a, z, ha, hz⟩ := Jo_last [32] (low_okw hw.2 hw.1) ws hws
   obtain ⟨y, m, hm, hy⟩ := Jo_head [32] (low_okw hw.2 hw.1) ws
   refine ⟨asgT n (w :: ws), one_line (a := n :: 32 :: 61 :: 32 :: a) (z := z) rfl (by rw [asgT, ha]; rfl) ho hz ?_ ?_, ?_⟩
   · intro e
     simp only [asgT, List.mem_cons] at e
     rcases e with e | e | e | e | e
     · rcases hn with rfl | rfl <;> exact absurd e (by decide)
     · exact absurd e (by decide)
     · exact absurd e (by decide)
     · exact absurd e (by decide)
     · exact Jo_no h (by decide) (by decide) 10 e rfl
   · intro e
     simp only [asgT, List.mem_cons] at e
     rcases e with e | e | e | e | e
     · rcases hn with rfl | rfl <;> exact absurd e (by decide)
     · exact absurd e (by decide)
     · exact absurd e (by decide)
     · exact absurd e (by decide)
     · exact Jo_no h (by decide) (by decide) 35 e rfl
   · unfold asgT
     rw [hm]
     have hb : blk y = false := blk_no hy
     have e4 : trimL (32 :: y :: m) = y :: m := by
       unfold trimL
       rw [List.dropWhile_cons_of_pos (by decide), List.dropWhile_cons_of_neg (by simp [hb])]
     have e : defsF (n :: 32 :: 61 :: 32 :: y :: m) = some ([n], [61], trimL (32 :: y :: m)) := by
       rcases hn with rfl | rfl <;> rfl
     rw [e, e4]
theorem exp_rule {a b : List T} (ha : ∀ x ∈ a, x ≠ [] ∧ low x) (hb : ∀ x ∈ b, x ≠ [] ∧ low x) (la : (Jo [32] a).length ≤ 400) (lb : (Jo [32] b).length ≤ 400) :
   expS [(bs [120], bs (Jo [32] a)), (bs [121], bs (Jo [32] b))] L3 = .ok (Jo [32] a ++ 58 :: (32 :: (Jo [32] b ++ [32]))) := by
 have hna := Jo_no ha (x := 36) (by decide) (by decide)
 have hnb := Jo_no hb (x := 36) (by decide) (by decide)
 obtain ⟨A, hA⟩ : ∃ z, Jo [32] a = z := ⟨_, rfl⟩
 obtain ⟨B, hB⟩ : ∃ z, Jo [32] b = z := ⟨_, rfl⟩
 rw [hA] at la hna ⊢
 rw [hB] at lb hnb ⊢
 obtain ⟨l, hl⟩ : ∃ z, mpOf [(bs [120], bs A), (bs [121], bs B)] = z := ⟨_, rfl⟩
 have l1 : lastV l [120] = some A := by rw [← hl]; rfl
 have l2 : lastV l [121] = some B := by rw [← hl]; rfl
 have l3 : lastV l [122] = none := by rw [← hl]; rfl
 have e : textF [] l 40 [] L3 0 = .ok (A ++ 58 :: (32 :: (B ++ [32])), 3) := by
   rw [textF_eq, if_neg (by decide)]
   unfold L3
   rw [scan_ref l 120 (by decide) _ _ 0 (by omega) A (by rw [refD_name _ _ (by decide), l1]; exact textF_plain _ _ _ _ _ _ (by omega) hna), if_neg (by simp; omega)]
   rw [show ([58, 32, 36, 40, 121, 41, 32, 36, 40, 122, 41] : T) = [58, 32] ++ [36, 40, 121, 41, 32, 36, 40, 122, 41] from rfl, scan_front _ _ _ [58, 32] _ (by decide) (by simp; omega), if_neg (by simp; omega)]
   rw [scan_ref l 121 (by decide) _ _ _ (by omega) B (by rw [refD_name _ _ (by decide), l2]; exact textF_plain _ _ _ _ _ _ (by omega) hnb), if_neg (by simp; omega)]
   rw [show ([32, 36, 40, 122, 41] : T) = [32] ++ [36, 40, 122, 41] from rfl, scan_front _ _ _ [32] _ (by decide) (by simp; omega), if_neg (by simp; omega)]
   rw [scan_ref l 122 (by decide) _ _ _ (by omega) [] (by rw [refD_name _ _ (by decide), l3]), if_neg (by simp; omega)]
   rw [scanF]
   simp
 unfold expS expF
 rw [hl, e]
 rfl
theorem def_go {s : Sx} {n v : T} {M : KV ByteArray} (hg : s.giv = []) (hm : putG (bs n, bs v) s.mac = M) (hl : s.mac.length < 200) : defineF s n [61] v = .ok { s with mac := M } := by
 unfold defineF
 rw [hg, if_neg (by
   rintro (h | h)
   · cases h
   · exact absurd h.1 (by decide))]
 have e : valV s.mac n [61] v = .ok v := by
   unfold valV
   rw [if_neg (by decide), if_neg (fun h => absurd h.1 (by decide))]
 rw [e]
 dsimp only
 rw [if_neg (by omega), hm]
theorem put_z (x y t : ByteArray) : putG (bs [122], t) [(bs [120], x), (bs [121], y)] = [(bs [120], x), (bs [121], y), (bs [122], t)] := by
 rw [putG, if_pos sLt_xz, putG, if_pos sLt_yz]; rfl
theorem put_xx (x t : ByteArray) (P : KV ByteArray) : putG (bs [120], t) ((bs [120], x) :: P) = (bs [120], t) :: P := by
 rw [putG, if_neg (by rw [sLt_irr]; simp), if_pos rfl]
theorem exp_plain (fs : St) (cwd : T) (d : Nat) {a b : List T} (ha : ∀ x ∈ a, x ≠ [] ∧ low x) (hb : ∀ x ∈ b, x ≠ [] ∧ low x) (hna : a ≠ []) (la : a.length ≤ 10) (lb : b.length ≤ 10) (ga : ∀ x ∈ a, x.length ≤ 30) (gb : ∀ x ∈ b, x.length ≤ 30) :
   textR fs cwd d ⟨[], [], [], 0⟩ (expT a b) = .ok ⟨[(bs [120], bs [110, 101, 119]), (bs [121], bs (Jo [32] b)), (bs [122], bs [108, 97, 116, 101, 114])], [], [⟨a, b, [L4]⟩], 0⟩ := by
 have ja := Jo_len ga
 have jb := Jo_len gb
 have hlen : (expT a b).length ≤ 16384 := by
   simp [expT, asgT, L3, L4, L5, L6]
   omega
 have h0 : (0 : UInt8) ∉ expT a b := by
   intro h
   unfold expT asgT at h
   simp only [List.mem_append, List.mem_cons, List.cons_append] at h
   have := Jo_no ha (x := 0) (by decide) (by decide) 0
   have := Jo_no hb (x := 0) (by decide) (by decide) 0
   revert h
   simp only [L3, L4, L5, L6, List.mem_cons, List.not_mem_nil]
   intro h
   rcases h with h | h | h | h | h | h | h | h | h | h | h | h | h | h | h | h | h | h | h | h
   all_goals first
     | exact absurd h (by decide)
     | exact Jo_no ha (x := 0) (by decide) (by decide) 0 h rfl
     | exact Jo_no hb (x := 0) (by decide) (by decide) 0 h rfl
 have asg92 : ∀ {n : UInt8} (hn : n = 120 ∨ n = 121) {ws : List T}, (∀ x ∈ ws, x ≠ [] ∧ low x) → (asgT n ws).getLast? ≠ some 92 ∧ (asgT n ws).getLast? ≠ some 10 := by
   intro n hn ws h
   have key : ∀ x : UInt8, (asgT n ws).getLast? = some x → x = n ∨ x = 32 ∨ x = 61 ∨ (97 ≤ x ∧ x ≤ 122) ∧ low [x] ∧ x ∈ Jo [32] ws := by
     intro x hx
     have hm := List.mem_of_getLast? hx
     simp only [asgT, List.mem_cons] at hm
     rcases hm with e | e | e | e | e
     · exact .inl e
     · exact .inr (.inl e)
     · exact .inr (.inr (.inl e))
     · exact .inr (.inl e)
     · rcases Jo_memL h e with h1 | h1
       · exact .inr (.inl h1)
       · exact .inr (.inr (.inr ⟨h1, fun c hc => by rw [List.mem_singleton.1 hc]; exact h1, e⟩))
   refine ⟨fun e => ?_, fun e => ?_⟩
   · rcases key _ e with h1 | h1 | h1 | ⟨h1, _⟩
     · rcases hn with rfl | rfl <;> exact absurd h1 (by decide)
     · exact absurd h1 (by decide)
     · exact absurd h1 (by decide)
     · exact absurd h1 (by decide)
   · rcases key _ e with h1 | h1 | h1 | ⟨h1, _⟩
     · rcases hn with rfl | rfl <;> exact absurd h1 (by decide)
     · exact absurd h1 (by decide)
     · exact absurd h1 (by decide)
     · exact absurd h1 (by decide)
 obtain ⟨l1, q1, d1⟩ := asg_line (n := 120) (.inl rfl) ha
 obtain ⟨l2, q2, d2⟩ := asg_line (n := 121) (.inr rfl) hb
 have two : ∀ (x y : T), x.getLast? ≠ some 92 → x.getLast? ≠ some 10 → linesA (cutL (x ++ 10 :: y)) = linesA (cutL x) ++ linesA (cutL y) := fun x y h1 h2 => two_lines x y h1 fun a e => absurd (show x.getLast? = some 10 by rw [e]; simp) h2
 have hL : linesA (cutL (expT a b)) = [(false, l1), (false, l2), (false, L3), (true, L4), (false, L5), (false, L6)] := by
   unfold expT
   rw [two _ _ (asg92 (.inl rfl) ha).1 (asg92 (.inl rfl) ha).2, q1, two _ _ (asg92 (.inr rfl) hb).1 (asg92 (.inr rfl) hb).2, q2, two L3 _ (by decide) (by decide), two (9 :: L4) _ (by decide) (by decide), two L5 _ (by decide) (by decide), two L6 _ (by decide) (by decide), cutL_nil]
   rfl
 rw [textR_eq]
 unfold bodyR
 rw [readF_ok hlen h0, hL, if_neg (by simp)]
 dsimp only
 rw [foldE_cons]
 have f1 : lineF fs cwd (recR fs cwd d) ⟨[], [], [], 0⟩ (false, l1) = .ok ⟨[(bs [120], bs (Jo [32] a))], [], [], 0⟩ := by
   unfold lineF
   rw [if_neg (by simp)]
   dsimp only
   rw [d1]
   rfl
 rw [f1]
 dsimp only
 rw [foldE_cons]
 have f2 : lineF fs cwd (recR fs cwd d) ⟨[(bs [120], bs (Jo [32] a))], [], [], 0⟩ (false, l2) = .ok ⟨[(bs [120], bs (Jo [32] a)), (bs [121], bs (Jo [32] b))], [], [], 0⟩ := by
   unfold lineF
   rw [if_neg (by simp)]
   dsimp only
   rw [d2]
   exact def_go rfl (put_y _ _) (by simp)
 rw [f2]
 dsimp only
 rw [foldE_cons]
 have f3 : lineF fs cwd (recR fs cwd d) ⟨[(bs [120], bs (Jo [32] a)), (bs [121], bs (Jo [32] b))], [], [], 0⟩ (false, L3) = .ok ⟨[(bs [120], bs (Jo [32] a)), (bs [121], bs (Jo [32] b))], [], [⟨a, b, []⟩], 0⟩ := by
   have e : lineF fs cwd (recR fs cwd d) ⟨[(bs [120], bs (Jo [32] a)), (bs [121], bs (Jo [32] b))], [], [], 0⟩ (false, L3) = ruleF ⟨[(bs [120], bs (Jo [32] a)), (bs [121], bs (Jo [32] b))], [], [], 0⟩ L3 := rfl
   have ec : cutF L3 0 [] = (L3, [], false) := rfl
   have hw : wordsF (Jo [32] a) [] = a := by
     have := words_joA (ws := a) (e := []) (fun w hw => by rw [wordsF, if_neg hw]) rfl ha
     rwa [List.append_nil] at this
   have hw2 : wordsF (32 :: (Jo [32] b ++ [32])) [] = b := by
     rw [wordsF, if_pos (by decide), if_pos rfl]
     exact words_joA (ws := b) (e := [32]) (fun w hw => by rw [wordsF, if_pos (by decide), if_neg hw]; rfl) rfl hb
   have h58 : (58 : UInt8) ∉ 32 :: (Jo [32] b ++ [32]) := by
     intro h
     simp only [List.mem_cons, List.mem_append, List.not_mem_nil, or_false] at h
     rcases h with h | h | h
     · exact absurd h (by decide)
     · exact Jo_no hb (x := 58) (by decide) (by decide) 58 h rfl
     · exact absurd h (by decide)
   have hmix : mixF a = false := by
     unfold mixF
     have : a.any pc = false := by
       rw [List.any_eq_false]
       intro x hx
       unfold pc
       simp only [decide_eq_true_eq]
       intro h
       exact low_ne (ha x hx).2 (x := 37) (by decide) 37 h rfl
     rw [this]; rfl
   rw [e]
   unfold ruleF
   rw [ec]
   dsimp only
   rw [exp_rule ha hb (by omega) (by omega)]
   dsimp only
   rw [cut_app (Jo_no ha (x := 58) (by decide) (by decide))]
   dsimp only
   rw [hw, hw2, if_neg (by
     rintro (h | h | h | h)
     · cases h
     · exact h58 h
     · exact hna h
     · rw [hmix] at h; cases h), if_neg (by
     rintro (h | h | h)
     · exact absurd h (by decide)
     · omega
     · omega)]
   rfl
 rw [f3]
 dsimp only
 rw [foldE_cons]
 have f4 : lineF fs cwd (recR fs cwd d) ⟨[(bs [120], bs (Jo [32] a)), (bs [121], bs (Jo [32] b))], [], [⟨a, b, []⟩], 0⟩ (true, L4) = .ok ⟨[(bs [120], bs (Jo [32] a)), (bs [121], bs (Jo [32] b))], [], [⟨a, b, [L4]⟩], 0⟩ := rfl
 rw [f4]
 dsimp only
 rw [foldE_cons]
 have f5 : lineF fs cwd (recR fs cwd d) ⟨[(bs [120], bs (Jo [32] a)), (bs [121], bs (Jo [32] b))], [], [⟨a, b, [L4]⟩], 0⟩ (false, L5) = .ok ⟨[(bs [120], bs (Jo [32] a)), (bs [121], bs (Jo [32] b)), (bs [122], bs [108, 97, 116, 101, 114])], [], [⟨a, b, [L4]⟩], 0⟩ := by
   have e : lineF fs cwd (recR fs cwd d) ⟨[(bs [120], bs (Jo [32] a)), (bs [121], bs (Jo [32] b))], [], [⟨a, b, [L4]⟩], 0⟩ (false, L5) = defineF ⟨[(bs [120], bs (Jo [32] a)), (bs [121], bs (Jo [32] b))], [], [⟨a, b, [L4]⟩], 0⟩ [122] [61] [108, 97, 116, 101, 114] := rfl
   rw [e]
   exact def_go rfl (put_z _ _ _) (by simp)
 rw [f5]
 dsimp only
 rw [foldE_cons]
 have f6 : lineF fs cwd (recR fs cwd d) ⟨[(bs [120], bs (Jo [32] a)), (bs [121], bs (Jo [32] b)), (bs [122], bs [108, 97, 116, 101, 114])], [], [⟨a, b, [L4]⟩], 0⟩ (false, L6) = .ok ⟨[(bs [120], bs [110, 101, 119]), (bs [121], bs (Jo [32] b)), (bs [122], bs [108, 97, 116, 101, 114])], [], [⟨a, b, [L4]⟩], 0⟩ := by
   have e : lineF fs cwd (recR fs cwd d) ⟨[(bs [120], bs (Jo [32] a)), (bs [121], bs (Jo [32] b)), (bs [122], bs [108, 97, 116, 101, 114])], [], [⟨a, b, [L4]⟩], 0⟩ (false, L6) = defineF ⟨[(bs [120], bs (Jo [32] a)), (bs [121], bs (Jo [32] b)), (bs [122], bs [108, 97, 116, 101, 114])], [], [⟨a, b, [L4]⟩], 0⟩ [120] [61] [110, 101, 119] := rfl
   rw [e]
   exact def_go rfl (put_xx _ _ _) (by simp)
 rw [f6]
 rfl
end Rd
end Go.Proofs.YtpheeheikigenaaGreatDoor
namespace Go.Proofs.YtpheeheikigenaaGreatDoor
section
open Go.RowKit Go.Deep Go.Maps Ln Pth Vf Rd Mc
attribute [local go_sem] bt_eq
theorem Jo_snoc1 (L : List T) (x : T) : Jo [32] (L ++ [x]) = (if L = [] then [] else Jo [32] L ++ [32]) ++ x := by
 cases L with
 | nil => simp [Jo]
 | cons w ws => rw [Jo_snoc, if_neg (by simp)]
theorem rlist_any (A : Option Addr) (c : Nat) (L : List ByteArray) (w : World) (h : SR w A L) (hl : L.length ≤ 1000) (hs : ∀ x ∈ L, x.size ≤ 10000) :
   Calls Tryz.prog 19 #[.slice A L.length c] w fun e w' => e = .returned (.string (bs (Jo [32] (L.map fun x => x.data.toList)))) ∧ w = w' := by
 have HL := hide h
 have HS := hide hs
 obtain ⟨n, hn⟩ : ∃ n, L.length = n := ⟨_, rfl⟩
 have HN := hide hn
 rw [hn] at hl ⊢
 clear h hs hn
 go_enter Tryz.func19, Tryz.ntmps19
 go_wp2
 go_loopw [3, 4] (fun v2 v3 wr => w = wr ∧ ∃ i : Nat, v3 = .int .i64 i ∧ i ≤ n ∧ v2 = .string (bs (Jo [32] ((L.take i).map fun x => x.data.toList))) ∧ (bs (Jo [32] ((L.take i).map fun x => x.data.toList))).size ≤ 10001 * i) (fun _ v3 _ => n - (intOf v3).toNat)
 case atStart => exact ⟨rfl, 0, rfl, by omega, rfl, by simp [Jo, bs_size]⟩
 case round =>
   obtain ⟨rfl, i, rfl, hi, rfl, hz⟩ := hrel
   by_cases hlt : i < n
   case neg =>
     obtain rfl : i = n := by omega
     have HE := hide (show L.take i = L from List.take_of_length_le (by have := HN.out; omega))
     go_wp2
     go_ret
     exact ⟨by rw [HE.out]; rfl, rfl⟩
   have b1 : (i : Int) < (n : Int) := by omega
   have hil : i < L.length := by have := HN.out; omega
   obtain ⟨x, hx⟩ : ∃ x, L[i]? = some x := ⟨_, List.getElem?_eq_getElem hil⟩
   obtain ⟨g, o, rfl, hg, h1⟩ := HL.out i x hx
   have hxz := HS.out x (List.mem_of_getElem? hx)
   obtain ⟨S, hS⟩ : ∃ z, bs (Jo [32] ((L.take i).map fun x => x.data.toList)) = z := ⟨_, rfl⟩
   have HST := hide (show bs (Jo [32] ((L.take (i + 1)).map fun x => x.data.toList)) = (if i = 0 then ⟨#[]⟩ else S ++ ⟨#[32]⟩) ++ x by
     have hx' : L[i] = x := by
       rw [List.getElem?_eq_getElem hil] at hx
       exact Option.some.inj hx
     rw [List.take_succ_eq_append_getElem hil, List.map_append, List.map_singleton, Jo_snoc1, ← bs_app, hx', bs_of, ← hS]
     congr 1
     by_cases h0 : i = 0
     · subst h0
       simp [bs]
     · rw [if_neg h0, if_neg (by
         intro e
         simp [h0] at e
         subst e
         simp at hil), ← bs_app]
       rfl)
   rw [hS] at hz ⊢
   have hS0 : i = 0 → S = ⟨#[]⟩ := by
     rintro rfl
     rw [← hS]
     simp [Jo, bs]
   clear hS hx hil
   by_cases h0 : i = 0
   · have hSe := hS0 h0
     subst h0
     subst hSe
     have q1 : decide ((0 : Int) < ((0 : Nat) : Int)) = false := rfl
     have h1 : w.cell? ⟨g, o, none⟩ = some (.string x) := by simpa using h1
     have HST := hide (show bs (Jo [32] ((L.take (0 + 1)).map fun x => x.data.toList)) = ⟨#[]⟩ ++ x from HST.out)
     go_wp2
     go_roundw
     case rel => exact ⟨trivial, 1, rfl, by omega, by rw [HST.out], by rw [HST.out]; simp [ByteArray.size_append]; omega⟩
     case measure => simp [intOf]; omega
   · have q1 : decide ((0 : Int) < (i : Int)) = true := decide_eq_true (by omega)
     have HST := hide (show bs (Jo [32] ((L.take (i + 1)).map fun x => x.data.toList)) = S ++ ⟨#[32]⟩ ++ x from HST.out.trans (by rw [if_neg h0]))
     go_wp2
     go_roundw
     case rel => exact ⟨trivial, i + 1, by go_num, by omega, by rw [HST.out], by rw [HST.out]; simp [ByteArray.size_append]; have : (⟨#[32]⟩ : ByteArray).size = 1 := rfl; omega⟩
     case measure => simp [intOf]; omega
def lowB (x : ByteArray) (p : Nat) : Prop := ∀ k, k < p → 97 ≤ bt x k ∧ bt x k ≤ 122
theorem low_of {x : ByteArray} (h : lowB x x.size) : low x.data.toList := by
 intro c hc
 obtain ⟨j, hj, hcj⟩ := List.getElem_of_mem hc
 have := h j (by rw [← data_len]; exact hj)
 have e : bt x j = c.toNat := by
   have h2 := bt_bs x.data.toList j
   rw [bs_of, List.getD_eq_getElem?_getD, List.getElem?_eq_getElem hj, hcj] at h2
   exact h2
 rw [e] at this
 exact ⟨by rw [UInt8.le_iff_toNat_le]; exact this.1, by rw [UInt8.le_iff_toNat_le]; exact this.2⟩
theorem macF_x3 (a b c : ByteArray) : macF [(bs [120], a), (bs [121], b), (bs [122], c)] ⟨#[120]⟩ = a := by
 unfold macF
 rw [getG_cons, if_pos (show (bs [120], a).1 = ⟨#[120]⟩ from rfl)]
 rfl
theorem law_rulesExpands (K : Nat) (hK : K ≤ 140737488355328) (A : Option Addr) (c : Nat) (L : List ByteArray) (B : Option Addr) (d : Nat) (M : List ByteArray) (hl : L.length ≤ maxLen) (hs : ∀ s ∈ L, s.size ≤ K) (hl2 : M.length ≤ maxLen) (hs2 : ∀ s ∈ M, s.size ≤ K) (w : World) (hm : MX w) (hA : SR w A L) (hB : SR w B M) :
   Calls Tryz.prog 6 #[.slice A L.length c, .slice B M.length d] w fun e w' => e = .returned (.bool true) ∧ Below w.heap.size w w' := by
 have HM := hide hm
 have HA := hide (ralive_any w hm)
 have HSA := hide hA
 have HSB := hide hB
 have HS1 := hide hs
 have HS2 := hide hs2
 unfold maxLen at hl hl2
 obtain ⟨n, hn⟩ : ∃ n, L.length = n := ⟨_, rfl⟩
 obtain ⟨m, hmm⟩ : ∃ n, M.length = n := ⟨_, rfl⟩
 have HN := hide hn
 have HMN := hide hmm
 rw [hn] at hl ⊢
 rw [hmm] at hl2 ⊢
 clear hm hA hB hs hs2 hn hmm
 go_enter Tryz.func6, Tryz.ntmps6
 go_wp2_with fail
 refine HA.out.mono ?_
 rintro e w1 ⟨rfl, hb1⟩
 have HB1 := hide hb1
 have HSA := hide (HSA.out.below hb1)
 have HSB := hide (HSB.out.below hb1)
 clear hb1 HA
 by_cases h0 : (n : Int) < 1
 · have hd : decide ((n : Int) < 1) = true := decide_eq_true h0
   go_wp2
   go_ret
   exact ⟨rfl, HB1.out⟩
 have hd : decide ((n : Int) < 1) = false := decide_eq_false h0
 by_cases h1 : (10 : Int) < (n : Int)
 · have hd1 : decide ((10 : Int) < (n : Int)) = true := decide_eq_true h1
   go_wp2
   go_ret
   exact ⟨rfl, HB1.out⟩
 have hd1 : decide ((10 : Int) < (n : Int)) = false := decide_eq_false h1
 by_cases h2 : (10 : Int) < (m : Int)
 · have hd2 : decide ((10 : Int) < (m : Int)) = true := decide_eq_true h2
   go_wp2
   go_ret
   exact ⟨rfl, HB1.out⟩
 have hd2 : decide ((10 : Int) < (m : Int)) = false := decide_eq_false h2
 obtain ⟨v1, W1, r1, o1, g1, b1⟩ := run_appS (OwnS.nil w1 w1.heap.size) HSA.out (c := c) (Nat.le_refl _) (by have := HN.out; simp; omega)
 rw [List.nil_append] at o1
 have hbW1 : Below w1.heap.size w1 W1 := Below.of_gb g1 (Nat.le_refl _) (fun k h => by cases h)
 obtain ⟨v2, W2, r2, o2, g2, b2⟩ := run_appS o1 (HSB.out.below hbW1) (c := d) hbW1.size (by have := HN.out; have := HMN.out; omega)
 have hbW2 : Below w1.heap.size w1 W2 := hbW1.trans ((Below.of_gb g2 (B := w1.heap.size) hbW1.size (fun k h => (o1.lt k h).1)))
 obtain ⟨A2, c2, rfl, hc2, s2, _⟩ := o2.slice
 rw [HN.out] at r1
 rw [HMN.out] at r2
 have HR1 := hide r1
 have HR2 := hide r2
 have HBW := hide (HB1.out.trans (hbW2.mono HB1.out.size))
 have HS := hide s2
 obtain ⟨q, hq⟩ : ∃ q, (L ++ M).length = q := ⟨_, rfl⟩
 have HQ := hide hq
 have hqq : q ≤ 20 := by rw [← hq, List.length_append, HN.out, HMN.out]; omega
 rw [hq] at HR2
 have HSA2 := hide (HSA.out.below hbW2)
 have HSB2 := hide (HSB.out.below hbW2)
 clear r1 o1 g1 b1 hbW1 r2 o2 g2 b2 hbW2 hc2 s2 hq HB1 HSA HSB
 go_wp2_with (at_builtin; first | (refine wpList_app_run ?_ (.const (.slice none 0 0)) (.tmp 32) ?_ ?_ ?_ ?_ HR1.out ?_; exact rfl; exact rfl; exact rfl; exact rfl; exact rfl) | (refine wpList_app_run ?_ (.tmp 33) (.tmp 34) ?_ ?_ ?_ ?_ HR2.out ?_; exact rfl; exact rfl; exact rfl; exact rfl; exact rfl))
 go_loopw [7, 8] (fun v7 _ wr => W2 = wr ∧ ∃ i : Nat, v7 = .int .i64 i ∧ i ≤ q ∧ Hid (∀ j x, j < i → (L ++ M)[j]? = some x → x ≠ ⟨#[]⟩ ∧ x.size ≤ 30 ∧ lowB x x.size)) (fun v7 _ _ => q - (intOf v7).toNat)
 case atStart => exact ⟨rfl, 0, rfl, by omega, hide fun j x hj => by omega⟩
 case round =>
   obtain ⟨rfl, i, rfl, hi, HG⟩ := hrel
   by_cases hlt : i < q
   case pos =>
     have b1 : (i : Int) < (q : Int) := by omega
     have hil : i < (L ++ M).length := by have := HQ.out; omega
     obtain ⟨x, hx⟩ : ∃ x, (L ++ M)[i]? = some x := ⟨_, List.getElem?_eq_getElem hil⟩
     obtain ⟨g, o, rfl, hg, hc⟩ := HS.out i x hx
     have hxz : x.size ≤ 140737488355328 := by
       rcases List.mem_append.1 (List.mem_of_getElem? hx) with h | h
       · exact Nat.le_trans (HS1.out x h) hK
       · exact Nat.le_trans (HS2.out x h) hK
     have HX := hide hx
     obtain ⟨p, hp⟩ : ∃ p, x.size = p := ⟨_, rfl⟩
     rw [hp] at hxz
     clear hx hil
     by_cases h3 : x.toList.isEmpty = true
     · go_wp2
       go_ret
       exact ⟨rfl, HBW.out⟩
     have h3' : x.toList.isEmpty = false := by simpa using h3
     by_cases h4 : (30 : Int) < (p : Int)
     · have hd4 : decide ((30 : Int) < (p : Int)) = true := decide_eq_true h4
       go_wp2
       go_ret
       exact ⟨rfl, HBW.out⟩
     have hd4 : decide ((30 : Int) < (p : Int)) = false := decide_eq_false h4
     have HXE := hide (show x ≠ ⟨#[]⟩ by rintro rfl; exact h3 (by rw [ByteArray.toList_eq]; rfl))
     clear h3
     go_wp2
     go_loopw [8] (fun v8 wr => W2 = wr ∧ ∃ k : Nat, v8 = .int .i64 k ∧ k ≤ p ∧ Hid (lowB x k)) (fun v8 _ => p - (intOf v8).toNat)
     case atStart => exact ⟨rfl, 0, rfl, by omega, hide fun j hj => by omega⟩
     case round =>
       obtain ⟨rfl, k, rfl, hk, HK⟩ := hrel
       by_cases hkl : k < p
       case pos =>
         have b2 : (k : Int) < (p : Int) := by omega
         by_cases c1 : (97 : Int) ≤ (bt x k : Int)
         case neg =>
           have q1 : decide ((97 : Int) ≤ (bt x k : Int)) = false := decide_eq_false c1
           go_wp2
           go_ret
           exact ⟨rfl, HBW.out⟩
         by_cases c2 : (bt x k : Int) ≤ 122
         case neg =>
           have q1 : decide ((97 : Int) ≤ (bt x k : Int)) = true := decide_eq_true c1
           have q2 : decide ((bt x k : Int) ≤ 122) = false := decide_eq_false c2
           go_wp2
           go_ret
           exact ⟨rfl, HBW.out⟩
         have q1 : decide ((97 : Int) ≤ (bt x k : Int)) = true := decide_eq_true c1
         have q2 : decide ((bt x k : Int) ≤ 122) = true := decide_eq_true c2
         have HK2 := hide (show lowB x (k + 1) from fun j hj => by
           by_cases e : j = k
           · subst e; exact ⟨by omega, by omega⟩
           · exact HK.out j (by omega))
         clear c1 c2
         go_wp2
         go_roundw
         case rel => exact ⟨trivial, k + 1, by go_num, by omega, HK2⟩
         case measure => simp [intOf]; omega
       obtain rfl : k = p := by omega
       have HG2 := hide (show ∀ j x, j < i + 1 → (L ++ M)[j]? = some x → x ≠ ⟨#[]⟩ ∧ x.size ≤ 30 ∧ lowB x x.size from fun j y hj hy => by
         by_cases e : j = i
         · subst e
           rw [HX.out] at hy
           obtain rfl := Option.some.inj hy
           exact ⟨HXE.out, by omega, by rw [hp]; exact HK.out⟩
         · exact HG.out j y (by omega) hy)
       clear HG HK
       go_wp2
       go_roundw
       case rel => exact ⟨trivial, i + 1, by go_num, by omega, HG2⟩
       case measure => simp [intOf]; omega
   obtain rfl : i = q := by omega
   have hall : ∀ x ∈ L ++ M, x ≠ ⟨#[]⟩ ∧ x.size ≤ 30 ∧ lowB x x.size := fun x hx => by
     obtain ⟨j, hj⟩ := List.mem_iff_getElem?.1 hx
     exact HG.out j x (by have := (List.getElem?_eq_some_iff.1 hj).1; have := HQ.out; omega) hj
   have hmap : ∀ X : List ByteArray, (∀ x ∈ X, x ∈ L ++ M) → (∀ t ∈ X.map (fun x => x.data.toList), t ≠ [] ∧ low t) ∧ (∀ t ∈ X.map (fun x => x.data.toList), t.length ≤ 30) := fun X hX => by
     refine ⟨fun t ht => ?_, fun t ht => ?_⟩
     · obtain ⟨x, hx, rfl⟩ := List.mem_map.1 ht
       obtain ⟨q1, _, q3⟩ := hall x (hX x hx)
       refine ⟨fun e => q1 ?_, low_of q3⟩
       rw [← bs_of x, e]; rfl
     · obtain ⟨x, hx, rfl⟩ := List.mem_map.1 ht
       rw [data_len]
       exact (hall x (hX x hx)).2.1
   obtain ⟨hLa, hLb⟩ := hmap L (fun x hx => List.mem_append_left _ hx)
   obtain ⟨hMa, hMb⟩ := hmap M (fun x hx => List.mem_append_right _ hx)
   have HPL := hide (fun fs cwd d => exp_plain fs cwd d hLa hMa (by intro e; have h := congrArg List.length e; rw [List.length_map, HN.out] at h; simp at h; omega) (by rw [List.length_map, HN.out]; omega) (by rw [List.length_map, HMN.out]; omega) hLb hMb)
   have hja := Jo_len hLb
   have hjb := Jo_len hMb
   rw [List.length_map, HN.out] at hja
   rw [List.length_map, HMN.out] at hjb
   have HLA := hide (rlist_any A c L _ HSA2.out (by have := HN.out; omega) (fun x hx => by have := (hall x (List.mem_append_left _ hx)).2.1; omega))
   have HLB := hide (rlist_any B d M _ HSB2.out (by have := HMN.out; omega) (fun x hx => by have := (hall x (List.mem_append_right _ hx)).2.1; omega))
   have HLD := hide (show (L.map fun x => x.data.toList).map bs = L by rw [List.map_map]; exact (List.map_congr_left fun x _ => bs_of x).trans (List.map_id L))
   have HMD := hide (show (M.map fun x => x.data.toList).map bs = M by rw [List.map_map]; exact (List.map_congr_left fun x _ => bs_of x).trans (List.map_id M))
   obtain ⟨La, hLL⟩ : ∃ z, (L.map fun x => x.data.toList) = z := ⟨_, rfl⟩
   obtain ⟨Ma, hML⟩ : ∃ z, (M.map fun x => x.data.toList) = z := ⟨_, rfl⟩
   rw [hLL] at HPL hja HLA HLD
   rw [hML] at HPL hjb HLB HMD
   rw [HN.out] at HLA
   rw [HMN.out] at HLB
   obtain ⟨JA, hJA⟩ : ∃ z, bs (Jo [32] La) = z := ⟨_, rfl⟩
   obtain ⟨JB, hJB⟩ : ∃ z, bs (Jo [32] Ma) = z := ⟨_, rfl⟩
   have hJAz : JA.size ≤ 310 := by rw [← hJA, bs_size]; omega
   have hJBz : JB.size ≤ 310 := by rw [← hJB, bs_size]; omega
   have HX := hide (show ⟨#[120, 32, 61, 32]⟩ ++ JA ++ ⟨#[10, 121, 32, 61, 32]⟩ ++ JB ++ ⟨#[10, 36, 40, 120, 41, 58, 32, 36, 40, 121, 41, 32, 36, 40, 122, 41, 10, 9, 101, 99, 104, 111, 32, 36, 40, 120, 41, 10, 122, 32, 61, 32, 108, 97, 116, 101, 114, 10, 120, 32, 61, 32, 110, 101, 119, 10]⟩ = bs (expT La Ma) by
     rw [← hJA, ← hJB, show (⟨#[120, 32, 61, 32]⟩ : ByteArray) = bs [120, 32, 61, 32] from rfl, show (⟨#[10, 121, 32, 61, 32]⟩ : ByteArray) = bs [10, 121, 32, 61, 32] from rfl, show (⟨#[10, 36, 40, 120, 41, 58, 32, 36, 40, 121, 41, 32, 36, 40, 122, 41, 10, 9, 101, 99, 104, 111, 32, 36, 40, 120, 41, 10, 122, 32, 61, 32, 108, 97, 116, 101, 114, 10, 120, 32, 61, 32, 110, 101, 119, 10]⟩ : ByteArray) = bs [10, 36, 40, 120, 41, 58, 32, 36, 40, 121, 41, 32, 36, 40, 122, 41, 10, 9, 101, 99, 104, 111, 32, 36, 40, 120, 41, 10, 122, 32, 61, 32, 108, 97, 116, 101, 114, 10, 120, 32, 61, 32, 110, 101, 119, 10] from rfl]
     simp only [bs_app]
     congr 1
     simp [expT, asgT, L3, L4, L5, L6])
   have HTL := hide (show (expT La Ma).length ≤ 9000000000000000000 by
     simp [expT, asgT, L3, L4, L5, L6]
     omega)
   rw [hJA] at HLA
   rw [hJB] at HLB
   have HNW := hide (vnew_at w _ HM.out HBW.out)
   have HRW := hide (fun (X1 : World) (gf : Nat) (hrd : ∀ (t : T) (Z : World), t.length ≤ 9000000000000000000 → Below X1.heap.size X1 Z → Calls Tryz.prog 13 #[.pointer (some ⟨gf, 0, none⟩), .string ⟨#[47]⟩, .string (bs t), .slice none 0 0] Z (MkEnd Z (textR (newS 1 1) [47] 10 ⟨[], [], [], 0⟩ t))) => hrd (expT La Ma) X1 HTL.out (Below.refl _ _))
   rw [HPL.out] at HRW
   clear hLa hLb hMa hMb hmap hall hja hjb hLL hML hJA hJB HG HS HR1 HR2 HPL HTL
   go_wp2_with fail
   refine HLA.out.mono ?_
   rintro e w3 ⟨rfl, rfl⟩
   go_wp2_with fail
   refine HLB.out.mono ?_
   rintro e w3 ⟨rfl, rfl⟩
   go_upto_region 16 with (fail)
   rw [HX.out]
   go_wp2_with fail
   refine HNW.out.mono ?_
   rintro e w3 ⟨gf, rfl, hb3, hrd⟩
   have HRD := hide (HRW.out w3 gf hrd)
   have HB3 := hide (HBW.out.trans (hb3.mono HBW.out.size))
   have HSA3 := hide (HSA2.out.below hb3)
   have HSB3 := hide (HSB2.out.below hb3)
   clear hrd hb3 HNW HRW
   go_wp2_with fail
   refine HRD.out.mono ?_
   rintro e w4 ⟨⟨pA, pc, rA, rc, rl, rfl, hpr, hrg, ho, hs⟩, hb4⟩
   dsimp only [List.length_cons, List.length_nil, Nat.zero_add, Nat.reduceAdd] at hpr hrg ho ⊢
   obtain ⟨q, rfl⟩ : ∃ q, rl = [q] := List.length_eq_one_iff.1 (by have := rl_len ho; simpa using this)
   have hq : outR q = ofRS ⟨La, Ma, [L4]⟩ := by simpa using ho
   unfold outR ofRS at hq
   simp only [List.map_cons, List.map_nil, List.cons.injEq, and_true, HLD.out, HMD.out] at hq
   obtain ⟨k1, k2, k3⟩ := hq
   obtain ⟨g, o, rfl, hg, hc⟩ := hrg 0 q rfl
   have e0 : w4.cell? ⟨g, o, none⟩ = some (.slice q.tg.1 n q.tg.2.1) := by
     have := hc 0 (sv q.tg) rfl
     unfold sv at this
     rw [k1, HN.out] at this
     simpa using this
   have e1 : w4.cell? ⟨g, o + 1, none⟩ = some (.slice q.nd.1 m q.nd.2.1) := by
     have := hc 1 (sv q.nd) rfl
     unfold sv at this
     rw [k2, HMN.out] at this
     simpa using this
   have e2 : w4.cell? ⟨g, o + 2, none⟩ = some (.slice q.rc.1 1 q.rc.2.1) := by
     have := hc 2 (sv q.rc) rfl
     unfold sv at this
     rw [k3] at this
     simpa using this
   obtain ⟨s1, s2, s3⟩ := hs q (by simp)
   rw [k1] at s1
   rw [k2] at s2
   rw [k3] at s3
   obtain ⟨⟨tA, tc⟩, hta⟩ : ∃ x : Option Addr × Nat, (q.tg.1, q.tg.2.1) = x := ⟨_, rfl⟩
   obtain ⟨⟨nA, nc⟩, hna⟩ : ∃ x : Option Addr × Nat, (q.nd.1, q.nd.2.1) = x := ⟨_, rfl⟩
   obtain ⟨⟨cA, cc⟩, hca⟩ : ∃ x : Option Addr × Nat, (q.rc.1, q.rc.2.1) = x := ⟨_, rfl⟩
   injection hta with t1 t2
   injection hna with n1 n2
   injection hca with c1 c2
   rw [t1, t2] at e0
   rw [n1, n2] at e1
   rw [c1, c2] at e2
   rw [t1] at s1
   rw [n1] at s2
   rw [c1] at s3
   have hb5 : Below w4.heap.size w4 (w4.alloc (.cells #[.slice pA 3 pc, .slice (some ⟨g, o, none⟩) 1 rc] mkty)) := (Below.refl _ _).alloc (Nat.le_refl _) _
   have hm5 := heapNew w4 (.cells #[.slice pA 3 pc, .slice (some ⟨g, o, none⟩) 1 rc] mkty)
   obtain ⟨W5, hW5⟩ : ∃ z, w4.alloc (.cells #[.slice pA 3 pc, .slice (some ⟨g, o, none⟩) 1 rc] mkty) = z := ⟨_, rfl⟩
   have HW5 := hide hW5
   rw [hW5] at hb5 hm5
   have hb6 : Below W5.heap.size W5 (W5.alloc (.cells #[.slice tA n tc, .slice nA m nc, .slice cA 1 cc] ruty)) := (Below.refl _ _).alloc (Nat.le_refl _) _
   have hr6 := heapNew W5 (.cells #[.slice tA n tc, .slice nA m nc, .slice cA 1 cc] ruty)
   obtain ⟨W6, hW6⟩ : ∃ z, W5.alloc (.cells #[.slice tA n tc, .slice nA m nc, .slice cA 1 cc] ruty) = z := ⟨_, rfl⟩
   have HW6 := hide hW6
   rw [hW6] at hb6 hr6
   have hb46 : Below w4.heap.size w4 W6 := hb5.trans (hb6.mono hb5.size)
   have HB6 := hide ((HB3.out.trans (hb4.mono HB3.out.size)).trans (hb46.mono (by have := HB3.out.size; have := hb4.size; omega)))
   have hg5 : W5.cell? ⟨g, o, none⟩ = some (.slice tA n tc) ∧ W5.cell? ⟨g, o + 1, none⟩ = some (.slice nA m nc) ∧ W5.cell? ⟨g, o + 2, none⟩ = some (.slice cA 1 cc) := ⟨(hb5.cell (p := ⟨g, o, none⟩) hg).trans e0, (hb5.cell (p := ⟨g, o + 1, none⟩) hg).trans e1, (hb5.cell (p := ⟨g, o + 2, none⟩) hg).trans e2⟩
   have m50 := cellOf hm5 (j := 0) rfl
   have m51 := cellOf hm5 (j := 1) rfl
   have hm6 := (hb6.block w4.heap.size (by have := (Array.getElem?_eq_some_iff.1 hm5).1; exact this)).trans hm5
   have HSM := hide (fun (P1 P2 : Option Addr) (q1 q2 : Nat) (X : List ByteArray) (Z : World) (h1 : SR Z P1 X) (h2 : SR Z P2 X) (hl : X.length ≤ 100000) => (same_any P1 P2 q1 q2 X X Z h1 h2 hl).mono fun e w' ⟨h3, h4⟩ => (⟨h3.trans (by rw [decide_eq_true rfl]), h4⟩ : e = Ending.returned (.bool true) ∧ Drew Z w'))
   have HT1 := hide (fun Z (hb : Below W6.heap.size W6 Z) => HSM.out tA A tc c L Z ((s1.below hb46).below hb) (((HSA3.out.below hb4).below hb46).below hb) (by have := HN.out; omega))
   have HT2 := hide (fun Z (hb : Below W6.heap.size W6 Z) => HSM.out nA B nc d M Z ((s2.below hb46).below hb) (((HSB3.out.below hb4).below hb46).below hb) (by have := HMN.out; omega))
   rw [HN.out] at HT1
   rw [HMN.out] at HT2
   have HT3 := hide (fun Z (hb : Below W6.heap.size W6 Z) => HSM.out cA (some ⟨Z.heap.size, 0, none⟩) cc 1 [bs L4] (Z.alloc (.cells #[.string (bs L4)] 9)) (((s3.below hb46).below hb).below ((Below.refl _ _).alloc (Nat.le_refl _) _)) (sr_new Z (bs L4)) (by simp))
   have HMX := hide (fun Z (hb : Below W6.heap.size W6 Z) => rmacro_any pA pc [(bs [120], bs [110, 101, 119]), (bs [121], bs (Jo [32] Ma)), (bs [122], bs [108, 97, 116, 101, 114])] (some ⟨g, o, none⟩) 1 rc ⟨#[120]⟩ Z ((hpr.below hb46).below hb) (by simp))
   rw [macF_x3] at HMX
   dsimp only [List.length_cons, List.length_nil, Nat.zero_add, Nat.reduceAdd] at HMX HT3
   have hr60 := cellOf hr6 (j := 0) rfl
   have hr61 := cellOf hr6 (j := 1) rfl
   have hr62 := cellOf hr6 (j := 2) rfl
   have m60 := cellOf hm6 (j := 0) rfl
   have m61 := cellOf hm6 (j := 1) rfl
   have HC6 := hide (show (W6.cell? ⟨W5.heap.size, 0, none⟩ = some (.slice tA n tc) ∧ W6.cell? ⟨W5.heap.size, 1, none⟩ = some (.slice nA m nc) ∧ W6.cell? ⟨W5.heap.size, 2, none⟩ = some (.slice cA 1 cc)) ∧ W6.cell? ⟨w4.heap.size, 0, none⟩ = some (.slice pA 3 pc) ∧ W6.cell? ⟨w4.heap.size, 1, none⟩ = some (.slice (some ⟨g, o, none⟩) 1 rc) from ⟨⟨hr60, hr61, hr62⟩, m60, m61⟩)
   have HNU := hide (fun n W => num20_any n W)
   have hg50 := hg5.1
   have hg51 := hg5.2.1
   have hg52 := hg5.2.2
   clear hpr hrg ho hs hb4 hc e0 e1 e2 s1 s2 s3 t1 t2 n1 n2 c1 c2 k1 k2 k3 hb5 hm5 hW5 hb6 hr6 hW6 hb46 hm6 hr60 hr61 hr62 m60 m61 HRD HX hg5
   go_wp2_with fail
   rw [HW5.out]
   refine (HNU.out _ _).mono ?_
   rintro e w7 ⟨rfl, rfl⟩
   go_wp2_with fail
   rw [HW6.out]
   have HCK := hide (fun Z (hb : Below W6.heap.size W6 Z) => show (Z.cell? ⟨W5.heap.size, 0, none⟩ = some (.slice tA n tc) ∧ Z.cell? ⟨W5.heap.size, 1, none⟩ = some (.slice nA m nc) ∧ Z.cell? ⟨W5.heap.size, 2, none⟩ = some (.slice cA 1 cc)) ∧ Z.cell? ⟨w4.heap.size, 0, none⟩ = some (.slice pA 3 pc) ∧ Z.cell? ⟨w4.heap.size, 1, none⟩ = some (.slice (some ⟨g, o, none⟩) 1 rc) by
     obtain ⟨⟨x1, x2, x3⟩, x4, x5⟩ := HC6.out
     exact ⟨⟨(hb.cell (World.block_lt_of_cell? W6 _ x1)).trans x1, (hb.cell (World.block_lt_of_cell? W6 _ x2)).trans x2, (hb.cell (World.block_lt_of_cell? W6 _ x3)).trans x3⟩, (hb.cell (World.block_lt_of_cell? W6 _ x4)).trans x4, (hb.cell (World.block_lt_of_cell? W6 _ x5)).trans x5⟩)
   clear m50 m51 hg50 hg51 hg52
   refine (HT1.out _ (Below.refl _ _)).mono ?_
   rintro e w7 ⟨rfl, hd7⟩
   have HB7 := hide (show Below W6.heap.size W6 w7 from hd7.below)
   obtain ⟨⟨f0, f1, f2⟩, f3, f4⟩ := HCK.out w7 HB7.out
   clear hd7
   go_wp2_with fail
   refine (HT2.out _ HB7.out).mono ?_
   rintro e w8 ⟨rfl, hd8⟩
   have HB8 := hide (show Below W6.heap.size W6 w8 from HB7.out.trans (hd8.below.mono HB7.out.size))
   clear hd8 f0 f1 f2 f3 f4
   obtain ⟨⟨f0, f1, f2⟩, f3, f4⟩ := HCK.out w8 HB8.out
   go_wp2_with fail
   refine (HT3.out _ HB8.out).mono ?_
   rintro e w9 ⟨rfl, hd9⟩
   have HB9 := hide (show Below W6.heap.size W6 w9 from (HB8.out.alloc HB8.out.size _).trans (hd9.below.mono (by simp; have := HB8.out.size; omega)))
   clear hd9 f0 f1 f2 f3 f4
   obtain ⟨⟨f0, f1, f2⟩, f3, f4⟩ := HCK.out w9 HB9.out
   go_wp2_with fail
   refine (HMX.out _ HB9.out).mono ?_
   rintro e w10 ⟨rfl, hb10⟩
   have HBA := hide (HB6.out.trans ((HB9.out.trans (hb10.mono HB9.out.size)).mono HB6.out.size))
   clear hb10
   go_wp2
   go_ret
   exact ⟨by simp [bs_toList], HBA.out⟩
end
end Go.Proofs.YtpheeheikigenaaGreatDoor
