/- The plain law of CallerOnce: what the walk computes answers true.
   Conditions: those that each theorem states ahead of its colon, and no other. -/
import Derived.Test.YteiinkhbgpldeaaGreatDoorPLetter
set_option linter.unusedSimpArgs false
set_option linter.unusedVariables false
namespace Go.Proofs.YteiinkhbgpldeaaGreatDoor.Sx
open Go
theorem awake26 : catenarylaw26_awake 3000 = some true := by kernel_rfl
def L1 : List M44 := [M44.mk 0 1 [1, 2] false 0]
theorem begin1 : catenaryref09_Begin 3000 1 2 = some (L1, 0) := by kernel_rfl
theorem new1 : caller_New 3000 1 1 L1 = some (.inr (1, 1, L1, 1, [], [], [])) := by kernel_rfl
theorem confs1 : atlas_Atlas_Confs 3000 L1 = some L1 := by kernel_rfl
theorem of1 (key : Int) : atlas_Atlas_Of 3000 L1 key = some (M44.mk 0 1 [1, 2] false 0) := by
  unfold atlas_Atlas_Of
  rw [confs1]
  have hc : atlas_Atlas_Chains L1 = some 1 := rfl
  rw [Option.bind_some, hc, Option.bind_some]
  unfold atlas_Chain
  rw [if_neg (by decide), Option.bind_some, if_neg (by decide), Int.tmod_one]
  rfl
theorem right1 : conf_Right 3000 (M44.mk 0 1 [1, 2] false 0) = some true := by kernel_rfl
theorem reader1 (key pick : Int) : ∃ r, atlas_Atlas_Reader 3000 L1 key pick = some r := by
  unfold atlas_Atlas_Reader role_Reader
  rw [of1, Option.bind_some, right1]
  simp only [Option.bind_some, Bool.not_true, Bool.false_eq_true, if_false]
  rw [if_neg (by decide)]
  have h0 : 0 ≤ (if 0 > pick then 0 else pick) := by split <;> omega
  generalize (if 0 > pick then 0 else pick) = p at h0
  have h2 : p.tmod 2 < 2 := Int.tmod_lt_of_pos _ (by decide)
  have h3 : 0 ≤ p.tmod 2 := Int.tmod_nonneg _ h0
  show ∃ r, (((ix [1, 2] (p.tmod 2)).bind _).bind _).bind _ = some r
  have h4 : p.tmod 2 = 0 ∨ p.tmod 2 = 1 := by omega
  rcases h4 with h4 | h4 <;> rw [h4] <;> exact ⟨_, rfl⟩
theorem head1 (key : Int) : atlas_Atlas_Head 3000 L1 key = some 1 := by
  unfold atlas_Atlas_Head role_Head
  rw [of1, Option.bind_some, right1]
  rfl
theorem req_some (o : M26) (c n : Int) (hl : o.f3.length ≤ 3000) : ∃ r, update_Request 3000 o c n = some r := by
  unfold update_Request update_Request_r2 bytes_Clone update_Asked update_check update_writes update_writes_r2
  rw [app_some (by simp; omega)]
  simp only [Option.bind_some, bindIf]
  generalize (if (o.f0 == 2) = true then o.f0 == 2 else o.f0 == 3) = b
  cases b
  · simp only [Bool.false_eq_true, if_false, Bool.not_false, if_true, Option.bind_some]
    rw [if_pos (by decide)]; exact ⟨_, rfl⟩
  · simp only [if_true, Bool.not_true, Bool.false_eq_true, if_false]
    split
    · rw [Option.bind_some, Option.bind_some, if_pos (by decide)]; exact ⟨_, rfl⟩
    · rw [chk_is _ ⟨by simp, by simp, by simp⟩ (by simp)]
      simp only [Option.bind_some]
      split <;> exact ⟨_, rfl⟩
theorem ask_some (o : M26) (hl : o.f3.length ≤ 3000) : ∃ r, caller_Caller_ask 3000 1 1 L1 o.f0 o.f1 o.f2 o.f3 o.f4 = some r := by
  unfold caller_Caller_ask caller_Caller_ask_r10 caller_Caller_ask_r9 caller_Caller_ask_r8 caller_Caller_ask_r7 caller_Caller_ask_r6 caller_Caller_Address
  rw [of1]
  simp only [Option.bind_some, head1]
  obtain ⟨r1, h1⟩ := reader1 o.f1 o.f4
  obtain ⟨r2, h2⟩ := req_some (M26.mk o.f0 o.f1 o.f2 o.f3 o.f4) 1 1 hl
  rw [h1, h2]
  split <;> exact ⟨_, rfl⟩
theorem check_some (o : M26) (hl : o.f3.length ≤ 3000) : ∃ e, caller_Caller_check 3000 1 0 o = some e := by
  unfold caller_Caller_check caller_Caller_check_r4 caller_Caller_check_r3
  obtain ⟨r2, h2⟩ := req_some o 1 1 hl
  rw [show IntKind.u64.wrap (0 + 1) = 1 by decide, h2]
  simp only [Option.bind_some, bindIf]
  split
  · split <;> exact ⟨_, rfl⟩
  · generalize (if (o.f0 == 2) = true then o.f0 == 2 else o.f0 == 3) = b
    cases b <;> exact ⟨_, rfl⟩
theorem bits18 : bitsK 18 = 704 := by kernel_rfl
theorem bits20 : bitsK 20 = 17216 := by kernel_rfl
theorem tags18 : tagsK 18 = [13, 0, 14] := by kernel_rfl
theorem tags20 : tagsK 20 = [13, 1, 14, 6] := by kernel_rfl
theorem chk18 (frm ver c : Int) (hf : frm = 1 ∨ frm = 2) (hc : 0 ≤ c ∧ c ≤ 255) : chk (M48.mk 18 frm 201 0 0 0 1 0 0 ver 0 0 c (M41.mk 0 0 0 0) (M44.mk 0 0 [] false 0) [] [] []) = 0 := by
  have ha : addrP frm = true := by rcases hf with rfl | rfl <;> decide
  have hb : bareP 704 (M48.mk 18 frm 201 0 0 0 1 0 0 ver 0 0 c (M41.mk 0 0 0 0) (M44.mk 0 0 [] false 0) [] [] []) = M48.mk 18 frm 201 0 0 0 1 0 0 ver 0 0 c (M41.mk 0 0 0 0) (M44.mk 0 0 [] false 0) [] [] [] := by kernel_rfl
  unfold chk
  simp only [bits18, tags18, hb, ha]
  simp [knownP, sameB, cmdB, confB, eqL, beqS, fineP, hc.1, hc.2, show addrP 201 = true by decide]
theorem chk20 (frm ver key c : Int) (hf : frm = 1 ∨ frm = 2) : chk (M48.mk 20 frm 201 0 0 0 1 0 0 ver 0 key 0 (M41.mk 0 0 0 0) (M44.mk 0 0 [] false 0) [] [] [c]) = 0 := by
  have ha : addrP frm = true := by rcases hf with rfl | rfl <;> decide
  have hb : bareP 17216 (M48.mk 20 frm 201 0 0 0 1 0 0 ver 0 key 0 (M41.mk 0 0 0 0) (M44.mk 0 0 [] false 0) [] [] [c]) = M48.mk 20 frm 201 0 0 0 1 0 0 ver 0 key 0 (M41.mk 0 0 0 0) (M44.mk 0 0 [] false 0) [] [] [c] := by kernel_rfl
  unfold chk
  simp only [bits20, tags20, hb, ha]
  simp [knownP, sameB, cmdB, confB, eqL, beqS, fineP, show addrP 201 = true by decide]
theorem node12 {frm : Int} (hf : frm = 1 ∨ frm = 2) : letter_Node frm = some true := by rcases hf with rfl | rfl <;> rfl
theorem short0 (k frm to a b c d e f g h i j : Int) (m : M41) (l : List Int) : Short (M48.mk k frm to a b c d e f g h i j m (M44.mk 0 0 [] false 0) [] [] l) := ⟨by simp, by simp, by simp⟩
theorem take_first18 (o : M26) (ver c : Int) (ho : (o.f0 == 1) = false) (hc : 0 ≤ c ∧ c ≤ 255) :
    caller_Caller_Take_3 3000 1 1 L1 o.f0 o.f1 o.f2 o.f3 o.f4 [] 0 0 0 [] (M48.mk 18 1 201 0 0 0 1 0 0 ver 0 0 c (M41.mk 0 0 0 0) (M44.mk 0 0 [] false 0) [] [] []) = some ([], 1, c, ver, [], L1, 1, 1, c, ver, []) := by
  unfold caller_Caller_Take_3
  rw [chk_is _ (short0 ..) (by simp), chk18 1 ver c (.inl rfl) hc]
  unfold caller_Caller_Take_3_r18 caller_Caller_Take_3_r17 caller_Caller_Address
  simp only [Option.bind_some, node12 (.inl rfl)]
  rw [if_neg (by decide), Option.bind_some, if_neg (by decide)]
  simp only [ho, Bool.not_false, if_true, Option.bind_some, beq_self_eq_true, Bool.and_self]
  rfl
theorem take_first20 (o : M26) (ver c : Int) (ho : o.f0 = 1) :
    caller_Caller_Take_3 3000 1 1 L1 o.f0 o.f1 o.f2 o.f3 o.f4 [] 0 0 0 [] (M48.mk 20 1 201 0 0 0 1 0 0 ver 0 o.f1 0 (M41.mk 0 0 0 0) (M44.mk 0 0 [] false 0) [] [] [c]) = some ([], 1, 0, ver, [c], L1, 1, 1, 0, ver, [c]) := by
  unfold caller_Caller_Take_3
  rw [chk_is _ (short0 ..) (by simp), chk20 1 ver o.f1 c (.inl rfl)]
  unfold caller_Caller_Take_3_r18 caller_Caller_Take_3_r17 caller_Caller_Address
  simp only [Option.bind_some, node12 (.inl rfl), ho]
  rw [if_neg (by decide), Option.bind_some, if_neg (by decide)]
  simp only [if_true, Option.bind_some, beq_self_eq_true]
  rfl
theorem take_next18 (o : M26) (a b ver c v2 c2 : Int) (d : List Int) (ho : (o.f0 == 1) = false) (hc : 0 ≤ c2 ∧ c2 ≤ 255) :
    caller_Caller_Take_4 3000 1 1 L1 o.f0 o.f1 o.f2 o.f3 o.f4 1 1 c ver d 1 a b d (M48.mk 18 2 201 0 0 0 1 0 0 v2 0 0 c2 (M41.mk 0 0 0 0) (M44.mk 0 0 [] false 0) [] [] []) = some ([], 1, a, b, d, L1, 1, 1, c, ver, d) := by
  unfold caller_Caller_Take_4
  rw [chk_is _ (short0 ..) (by simp), chk18 2 v2 c2 (.inr rfl) hc]
  unfold caller_Caller_Take_4_r18 caller_Caller_Take_4_r17 caller_Caller_Address
  simp only [Option.bind_some, node12 (.inr rfl)]
  rw [if_neg (by decide), Option.bind_some, if_neg (by decide)]
  simp only [if_true, Option.bind_some, beq_self_eq_true]
  rfl
theorem take_next20 (o : M26) (a b ver c v2 c2 : Int) (d : List Int) (ho : o.f0 = 1) :
    caller_Caller_Take_4 3000 1 1 L1 o.f0 o.f1 o.f2 o.f3 o.f4 1 1 c ver d 1 a b d (M48.mk 20 2 201 0 0 0 1 0 0 v2 0 o.f1 0 (M41.mk 0 0 0 0) (M44.mk 0 0 [] false 0) [] [] [c2]) = some ([], 1, a, b, d, L1, 1, 1, c, ver, d) := by
  unfold caller_Caller_Take_4
  rw [chk_is _ (short0 ..) (by simp), chk20 2 v2 o.f1 c2 (.inr rfl)]
  unfold caller_Caller_Take_4_r18 caller_Caller_Take_4_r17 caller_Caller_Address
  simp only [Option.bind_some, node12 (.inr rfl)]
  rw [if_neg (by decide), Option.bind_some, if_neg (by decide)]
  simp only [if_true, Option.bind_some, beq_self_eq_true]
  rfl
theorem pureCallerOnce {A : Prop} (o : M26) (code ver : M27) (_ : wfInt .i64 o.f0 ∧ A) (hc : wfInt .u8 code.f0 ∧ wfInt .u8 code.f1) (hv : wfInt .u8 ver.f0 ∧ wfInt .u8 ver.f1) : ∃ k, catenarylaw26_CallerOnce k o code ver = some true := by
  refine ⟨3000, ?_⟩
  have c0 := wfInt_u8.1 hc.1
  have c1 := wfInt_u8.1 hc.2
  have v0 := wfInt_u8.1 hv.1
  have v1 := wfInt_u8.1 hv.2
  unfold catenarylaw26_CallerOnce
  rw [begin1, Option.bind_some, new1, Option.bind_some]
  dsimp only
  by_cases h : (o.f3.length : Int) > 2100
  · rw [if_pos (by simpa using h), awake26]; rfl
  rw [if_neg (by simpa using h)]
  unfold caller_Caller_Begin_4 caller_Caller_Begin_4_r2
  obtain ⟨e, he⟩ := check_some o (by omega)
  rw [he, Option.bind_some]
  by_cases hz : (e != 0) = true
  · rw [if_pos hz, Option.bind_some]
    dsimp only
    rw [if_pos hz, awake26]
    rfl
  · obtain ⟨A1, hA⟩ := ask_some o (by omega)
    have hcl : bytes_Clone o.f3 = some o.f3 := by unfold bytes_Clone; rw [app_some (by simp; omega)]; rfl
    have hla : latch_New_api_Reply = some [] := rfl
    rw [if_neg hz, hcl, Option.bind_some, hla, Option.bind_some, Option.bind_some, show IntKind.u64.wrap (0 + 1) = 1 by decide, hA, Option.bind_some, Option.bind_some]
    dsimp only
    unfold catenarylaw26_CallerOnce_r18 catenarylaw26_CallerOnce_r17 catenarylaw26_CallerOnce_r16
    rw [wu64 (n := ver.f0) (by omega) (by omega), wu64 (n := ver.f1) (by omega) (by omega), w64 (n := code.f0) (by omega) (by omega), w64 (n := code.f1) (by omega) (by omega)]
    by_cases ho : o.f0 = 1
    · rw [if_pos (by simp [ho]), Option.bind_some, if_pos (by decide), Option.bind_some]
      dsimp only
      rw [take_first20 o ver.f0 code.f0 ho, Option.bind_some, if_pos (by decide), Option.bind_some]
      dsimp only
      rw [take_next20 o 0 ver.f0 ver.f0 0 ver.f1 code.f1 [code.f0] ho, Option.bind_some]
      have hr : caller_Caller_Reply_3 1 0 ver.f0 [code.f0] = some (M51.mk 0 ver.f0 [code.f0], true) := rfl
      have hb : caller_Caller_Busy_6 1 0 ver.f0 [code.f0] = some false := rfl
      dsimp only
      rw [hr, Option.bind_some, if_neg (by simp), hb, Option.bind_some, if_neg (by decide), if_neg (by simp)]
      unfold caller_Caller_Tick_6
      rw [hb, Option.bind_some, if_pos (by decide)]
      unfold catenarylaw26_CallerOnce_r15
      have hs : catenaryref01_Same 3000 [code.f0] [code.f0] = some true := by
        unfold catenaryref01_Same catenaryref01_Same_r10
        rw [if_neg (by simp), catenaryref01_Same_l11, if_pos (by simp)]
        simp only [show ix [code.f0] 0 = some code.f0 from rfl, Option.bind_some, bne_self_eq_false, catenaryref01_Same_r12, Bool.false_eq_true, if_false]
        rw [catenaryref01_Same_l11, if_neg (by show ¬ decide (IntKind.i64.wrap (0 + 1) < 1) = true; decide)]
        rfl
      rw [hs, awake26]
      rfl
    · have ho' : (o.f0 == 1) = false := by simpa using ho
      rw [if_neg (by simp [ho]), Option.bind_some, if_neg (by decide), Option.bind_some]
      dsimp only
      rw [take_first18 o ver.f0 code.f0 ho' c0, Option.bind_some, if_neg (by decide), Option.bind_some]
      dsimp only
      rw [take_next18 o code.f0 ver.f0 ver.f0 code.f0 ver.f1 code.f1 [] ho' c1, Option.bind_some]
      have hr : caller_Caller_Reply_3 1 code.f0 ver.f0 [] = some (M51.mk code.f0 ver.f0 [], true) := rfl
      have hb : caller_Caller_Busy_6 1 code.f0 ver.f0 [] = some false := rfl
      dsimp only
      rw [hr, Option.bind_some, if_neg (by simp), hb, Option.bind_some, if_neg (by decide), if_neg (by simp)]
      unfold caller_Caller_Tick_6
      rw [hb, Option.bind_some, if_pos (by decide)]
      unfold catenarylaw26_CallerOnce_r15
      rw [awake26, w64 (n := code.f0) (by omega) (by omega)]
      simp [catenarylaw26_CallerOnce_r14]
end Go.Proofs.YteiinkhbgpldeaaGreatDoor.Sx
