/- The Book's Apart, where lists of these kinds alone are held: Int, Pair. -/
import Derived.Test.YtjhomkdnhdhffaaGreatBkInt
import Derived.Test.YtjhomkdnhdhffaaGreatBkPair
import Derived.Test.YtjhomkdnhdhffaaGreatBkNoA
namespace Go.Proofs.YtjhomkdnhdhffaaGreat
open Go.RowKit
/-- The types of the lots and of the block that holds the book are unlike. -/
structure BkTypes (TB : TypeId) : Prop where
  eInt : TB ≠ 3
  hInt : TB ≠ 107
  ePair : TB ≠ 100
  hPair : TB ≠ 177
set_option maxRecDepth 100000 in
set_option maxHeartbeats 20000000 in
theorem apart_any {TB : TypeId} {gb o nb : Nat} {F : Nat → Value} {lInt lPair : List HL} {w : World} (hbk : BookAt w TB gb o nb F) (hT : BkTypes TB) (hInt : LotA 3 107 1 mkInt w (F 0) lInt 0) (hPair : LotA 100 177 2 mkPair w (F 12) lPair 0) (hn : ∀ i, i < 25 → i ≠ 0 → i ≠ 12 → F i = .slice none 0 0) :
    Calls Tryz.prog 13 #[.pointer (some ⟨gb, o, none⟩)] w fun e w' => e = .returned (.bool true) ∧ Kp (fun b => LotS (F 0) lInt b ∨ LotS (F 12) lPair b) w w' := by
  have HBK := hid hbk
  have HT := hid hT
  have HK : Hid (Kp (fun b => LotS (F 0) lInt b ∨ LotS (F 12) lPair b) w w) := hid (Kp.refl _ _)
  have HInt := hid hInt
  have HPair := hid hPair
  have HN : Hid (F 1 = .slice none 0 0 ∧ F 2 = .slice none 0 0 ∧ F 3 = .slice none 0 0 ∧ F 4 = .slice none 0 0 ∧ F 5 = .slice none 0 0 ∧ F 6 = .slice none 0 0 ∧ F 7 = .slice none 0 0 ∧ F 8 = .slice none 0 0 ∧ F 9 = .slice none 0 0 ∧ F 10 = .slice none 0 0 ∧ F 11 = .slice none 0 0 ∧ F 13 = .slice none 0 0 ∧ F 14 = .slice none 0 0 ∧ F 15 = .slice none 0 0 ∧ F 16 = .slice none 0 0 ∧ F 17 = .slice none 0 0 ∧ F 18 = .slice none 0 0 ∧ F 19 = .slice none 0 0 ∧ F 20 = .slice none 0 0 ∧ F 21 = .slice none 0 0 ∧ F 22 = .slice none 0 0 ∧ F 23 = .slice none 0 0 ∧ F 24 = .slice none 0 0) := hid ⟨hn 1 (by decide) (by decide) (by decide), hn 2 (by decide) (by decide) (by decide), hn 3 (by decide) (by decide) (by decide), hn 4 (by decide) (by decide) (by decide), hn 5 (by decide) (by decide) (by decide), hn 6 (by decide) (by decide) (by decide), hn 7 (by decide) (by decide) (by decide), hn 8 (by decide) (by decide) (by decide), hn 9 (by decide) (by decide) (by decide), hn 10 (by decide) (by decide) (by decide), hn 11 (by decide) (by decide) (by decide), hn 13 (by decide) (by decide) (by decide), hn 14 (by decide) (by decide) (by decide), hn 15 (by decide) (by decide) (by decide), hn 16 (by decide) (by decide) (by decide), hn 17 (by decide) (by decide) (by decide), hn 18 (by decide) (by decide) (by decide), hn 19 (by decide) (by decide) (by decide), hn 20 (by decide) (by decide) (by decide), hn 21 (by decide) (by decide) (by decide), hn 22 (by decide) (by decide) (by decide), hn 23 (by decide) (by decide) (by decide), hn 24 (by decide) (by decide) (by decide)⟩
  clear hbk hT hn hInt hPair
  go_enter Tryz.func13, Tryz.ntmps13
  go_upto_region 1 with fail
  go_upto_region 2 with (go_at_call 29; refine (fillInt_any HBK.out HT.out.eInt HT.out.hInt HInt.out).mono ?_; rintro e w1 ⟨⟨_, rfl⟩, h1, k1⟩; have HBKn := hid (HBK.out.kept (k1.block gb HBK.out.lt (HBK.out.not HInt.out.lot HT.out.eInt HT.out.hInt))); have HKn := hid (HK.out.trans k1 fun b _ hb => .inl (hb)); have HPair := hid (HPair.out.kept fun b hb => k1.block b (HPair.out.lot.lt hb) (LotX.sep HPair.out.lot HInt.out.lot (by decide) (by decide) (by decide) (by decide) hb)); have HInt := hid h1; clear h1 k1 HBK HK; have HBK := HBKn; have HK := HKn; clear HBKn HKn)
  go_upto_region 3 with (go_at_call 30; refine (fillByte_none HBK.out HN.out.1).mono ?_; rintro e w' ⟨⟨_, rfl⟩, rfl⟩)
  go_upto_region 4 with (go_at_call 31; refine (fillFloat_none HBK.out HN.out.2.1).mono ?_; rintro e w' ⟨⟨_, rfl⟩, rfl⟩)
  go_upto_region 5 with (go_at_call 32; refine (fillID_none HBK.out HN.out.2.2.1).mono ?_; rintro e w' ⟨⟨_, rfl⟩, rfl⟩)
  go_upto_region 6 with (go_at_call 33; refine (fillPoint_none HBK.out HN.out.2.2.2.1).mono ?_; rintro e w' ⟨⟨_, rfl⟩, rfl⟩)
  go_upto_region 7 with (go_at_call 34; refine (fillBox_none HBK.out HN.out.2.2.2.2.1).mono ?_; rintro e w' ⟨⟨_, rfl⟩, rfl⟩)
  go_upto_region 8 with (go_at_call 35; refine (fillNear_none HBK.out HN.out.2.2.2.2.2.1).mono ?_; rintro e w' ⟨⟨_, rfl⟩, rfl⟩)
  go_upto_region 9 with (go_at_call 36; refine (fillRoad_none HBK.out HN.out.2.2.2.2.2.2.1).mono ?_; rintro e w' ⟨⟨_, rfl⟩, rfl⟩)
  go_upto_region 10 with (go_at_call 37; refine (fillLeg_none HBK.out HN.out.2.2.2.2.2.2.2.1).mono ?_; rintro e w' ⟨⟨_, rfl⟩, rfl⟩)
  go_upto_region 11 with (go_at_call 38; refine (fillStop_none HBK.out HN.out.2.2.2.2.2.2.2.2.1).mono ?_; rintro e w' ⟨⟨_, rfl⟩, rfl⟩)
  go_upto_region 12 with (go_at_call 39; refine (fillWaiting_none HBK.out HN.out.2.2.2.2.2.2.2.2.2.1).mono ?_; rintro e w' ⟨⟨_, rfl⟩, rfl⟩)
  go_upto_region 13 with (go_at_call 40; refine (fillIdle_none HBK.out HN.out.2.2.2.2.2.2.2.2.2.2.1).mono ?_; rintro e w' ⟨⟨_, rfl⟩, rfl⟩)
  go_upto_region 14 with (go_at_call 41; refine (fillPair_any HBK.out HT.out.ePair HT.out.hPair HPair.out).mono ?_; rintro e w2 ⟨⟨_, rfl⟩, h1, k1⟩; have HBKn := hid (HBK.out.kept (k1.block gb HBK.out.lt (HBK.out.not HPair.out.lot HT.out.ePair HT.out.hPair))); have HKn := hid (HK.out.trans k1 fun b _ hb => .inr (hb)); have HInt := hid (HInt.out.kept fun b hb => k1.block b (HInt.out.lot.lt hb) (LotX.sep HInt.out.lot HPair.out.lot (by decide) (by decide) (by decide) (by decide) hb)); have HPair := hid h1; clear h1 k1 HBK HK; have HBK := HBKn; have HK := HKn; clear HBKn HKn)
  go_upto_region 15 with (go_at_call 42; refine (fillEdge_none HBK.out HN.out.2.2.2.2.2.2.2.2.2.2.2.1).mono ?_; rintro e w' ⟨⟨_, rfl⟩, rfl⟩)
  go_upto_region 16 with (go_at_call 43; refine (fillJourney_none HBK.out HN.out.2.2.2.2.2.2.2.2.2.2.2.2.1).mono ?_; rintro e w' ⟨⟨_, rfl⟩, rfl⟩)
  go_upto_region 17 with (go_at_call 44; refine (fillStanding_none HBK.out HN.out.2.2.2.2.2.2.2.2.2.2.2.2.2.1).mono ?_; rintro e w' ⟨⟨_, rfl⟩, rfl⟩)
  go_upto_region 18 with (go_at_call 45; refine (fillEntry_none HBK.out HN.out.2.2.2.2.2.2.2.2.2.2.2.2.2.2.1).mono ?_; rintro e w' ⟨⟨_, rfl⟩, rfl⟩)
  go_upto_region 19 with (go_at_call 46; refine (fillTrip_none HBK.out HN.out.2.2.2.2.2.2.2.2.2.2.2.2.2.2.2.1).mono ?_; rintro e w' ⟨⟨_, rfl⟩, rfl⟩)
  go_upto_region 20 with (go_at_call 47; refine (fillReply_none HBK.out HN.out.2.2.2.2.2.2.2.2.2.2.2.2.2.2.2.2.1).mono ?_; rintro e w' ⟨⟨_, rfl⟩, rfl⟩)
  go_upto_region 21 with (go_at_call 48; refine (fillFrame_none HBK.out HN.out.2.2.2.2.2.2.2.2.2.2.2.2.2.2.2.2.2.1).mono ?_; rintro e w' ⟨⟨_, rfl⟩, rfl⟩)
  go_upto_region 22 with (go_at_call 49; refine (fillCommand_none HBK.out HN.out.2.2.2.2.2.2.2.2.2.2.2.2.2.2.2.2.2.2.1).mono ?_; rintro e w' ⟨⟨_, rfl⟩, rfl⟩)
  go_upto_region 23 with (go_at_call 50; refine (fillIntList_none HBK.out HN.out.2.2.2.2.2.2.2.2.2.2.2.2.2.2.2.2.2.2.2.1).mono ?_; rintro e w' ⟨⟨_, rfl⟩, rfl⟩)
  go_upto_region 24 with (go_at_call 51; refine (fillByteList_none HBK.out HN.out.2.2.2.2.2.2.2.2.2.2.2.2.2.2.2.2.2.2.2.2.1).mono ?_; rintro e w' ⟨⟨_, rfl⟩, rfl⟩)
  go_upto_region 25 with (go_at_call 52; refine (fillReplyList_none HBK.out HN.out.2.2.2.2.2.2.2.2.2.2.2.2.2.2.2.2.2.2.2.2.2.1).mono ?_; rintro e w' ⟨⟨_, rfl⟩, rfl⟩)
  go_upto_region 26 with (go_at_call 53; refine (fillRecord_none HBK.out HN.out.2.2.2.2.2.2.2.2.2.2.2.2.2.2.2.2.2.2.2.2.2.2).mono ?_; rintro e w' ⟨⟨_, rfl⟩, rfl⟩)
  go_upto_region 27 with (go_at_call 54; refine (growInt_any HBK.out HT.out.eInt HT.out.hInt HInt.out.grow).mono ?_; rintro e w3 ⟨⟨_, rfl⟩, ⟨mInt, _, h1⟩, k1⟩; have HBKn := hid (HBK.out.kept (k1.block gb HBK.out.lt (HBK.out.not HInt.out.lot HT.out.eInt HT.out.hInt))); have HKn := hid (HK.out.trans k1 fun b _ hb => .inl (hb)); have HPair := hid (HPair.out.kept fun b hb => k1.block b (HPair.out.lot.lt hb) (LotX.sep HPair.out.lot HInt.out.lot (by decide) (by decide) (by decide) (by decide) hb)); have HInt := hid h1; clear h1 k1 HBK HK; have HBK := HBKn; have HK := HKn; clear HBKn HKn)
  go_upto_region 28 with (go_at_call 55; refine (growByte_none HBK.out HN.out.1).mono ?_; rintro e w' ⟨⟨_, rfl⟩, rfl⟩)
  go_upto_region 29 with (go_at_call 56; refine (growFloat_none HBK.out HN.out.2.1).mono ?_; rintro e w' ⟨⟨_, rfl⟩, rfl⟩)
  go_upto_region 30 with (go_at_call 57; refine (growID_none HBK.out HN.out.2.2.1).mono ?_; rintro e w' ⟨⟨_, rfl⟩, rfl⟩)
  go_upto_region 31 with (go_at_call 58; refine (growPoint_none HBK.out HN.out.2.2.2.1).mono ?_; rintro e w' ⟨⟨_, rfl⟩, rfl⟩)
  go_upto_region 32 with (go_at_call 59; refine (growBox_none HBK.out HN.out.2.2.2.2.1).mono ?_; rintro e w' ⟨⟨_, rfl⟩, rfl⟩)
  go_upto_region 33 with (go_at_call 60; refine (growNear_none HBK.out HN.out.2.2.2.2.2.1).mono ?_; rintro e w' ⟨⟨_, rfl⟩, rfl⟩)
  go_upto_region 34 with (go_at_call 61; refine (growRoad_none HBK.out HN.out.2.2.2.2.2.2.1).mono ?_; rintro e w' ⟨⟨_, rfl⟩, rfl⟩)
  go_upto_region 35 with (go_at_call 62; refine (growLeg_none HBK.out HN.out.2.2.2.2.2.2.2.1).mono ?_; rintro e w' ⟨⟨_, rfl⟩, rfl⟩)
  go_upto_region 36 with (go_at_call 63; refine (growStop_none HBK.out HN.out.2.2.2.2.2.2.2.2.1).mono ?_; rintro e w' ⟨⟨_, rfl⟩, rfl⟩)
  go_upto_region 37 with (go_at_call 64; refine (growWaiting_none HBK.out HN.out.2.2.2.2.2.2.2.2.2.1).mono ?_; rintro e w' ⟨⟨_, rfl⟩, rfl⟩)
  go_upto_region 38 with (go_at_call 65; refine (growIdle_none HBK.out HN.out.2.2.2.2.2.2.2.2.2.2.1).mono ?_; rintro e w' ⟨⟨_, rfl⟩, rfl⟩)
  go_upto_region 39 with (go_at_call 66; refine (growPair_any HBK.out HT.out.ePair HT.out.hPair HPair.out.grow).mono ?_; rintro e w4 ⟨⟨_, rfl⟩, ⟨mPair, _, h1⟩, k1⟩; have HBKn := hid (HBK.out.kept (k1.block gb HBK.out.lt (HBK.out.not HPair.out.lot HT.out.ePair HT.out.hPair))); have HKn := hid (HK.out.trans k1 fun b _ hb => .inr (hb)); have HInt := hid (HInt.out.kept fun b hb => k1.block b (HInt.out.lot.lt hb) (LotX.sep HInt.out.lot HPair.out.lot (by decide) (by decide) (by decide) (by decide) hb)); have HPair := hid h1; clear h1 k1 HBK HK; have HBK := HBKn; have HK := HKn; clear HBKn HKn)
  go_upto_region 40 with (go_at_call 67; refine (growEdge_none HBK.out HN.out.2.2.2.2.2.2.2.2.2.2.2.1).mono ?_; rintro e w' ⟨⟨_, rfl⟩, rfl⟩)
  go_upto_region 41 with (go_at_call 68; refine (growJourney_none HBK.out HN.out.2.2.2.2.2.2.2.2.2.2.2.2.1).mono ?_; rintro e w' ⟨⟨_, rfl⟩, rfl⟩)
  go_upto_region 42 with (go_at_call 69; refine (growStanding_none HBK.out HN.out.2.2.2.2.2.2.2.2.2.2.2.2.2.1).mono ?_; rintro e w' ⟨⟨_, rfl⟩, rfl⟩)
  go_upto_region 43 with (go_at_call 70; refine (growEntry_none HBK.out HN.out.2.2.2.2.2.2.2.2.2.2.2.2.2.2.1).mono ?_; rintro e w' ⟨⟨_, rfl⟩, rfl⟩)
  go_upto_region 44 with (go_at_call 71; refine (growTrip_none HBK.out HN.out.2.2.2.2.2.2.2.2.2.2.2.2.2.2.2.1).mono ?_; rintro e w' ⟨⟨_, rfl⟩, rfl⟩)
  go_upto_region 45 with (go_at_call 72; refine (growReply_none HBK.out HN.out.2.2.2.2.2.2.2.2.2.2.2.2.2.2.2.2.1).mono ?_; rintro e w' ⟨⟨_, rfl⟩, rfl⟩)
  go_upto_region 46 with (go_at_call 73; refine (growFrame_none HBK.out HN.out.2.2.2.2.2.2.2.2.2.2.2.2.2.2.2.2.2.1).mono ?_; rintro e w' ⟨⟨_, rfl⟩, rfl⟩)
  go_upto_region 47 with (go_at_call 74; refine (growCommand_none HBK.out HN.out.2.2.2.2.2.2.2.2.2.2.2.2.2.2.2.2.2.2.1).mono ?_; rintro e w' ⟨⟨_, rfl⟩, rfl⟩)
  go_upto_region 48 with (go_at_call 75; refine (growIntList_none HBK.out HN.out.2.2.2.2.2.2.2.2.2.2.2.2.2.2.2.2.2.2.2.1).mono ?_; rintro e w' ⟨⟨_, rfl⟩, rfl⟩)
  go_upto_region 49 with (go_at_call 76; refine (growByteList_none HBK.out HN.out.2.2.2.2.2.2.2.2.2.2.2.2.2.2.2.2.2.2.2.2.1).mono ?_; rintro e w' ⟨⟨_, rfl⟩, rfl⟩)
  go_upto_region 50 with (go_at_call 77; refine (growReplyList_none HBK.out HN.out.2.2.2.2.2.2.2.2.2.2.2.2.2.2.2.2.2.2.2.2.2.1).mono ?_; rintro e w' ⟨⟨_, rfl⟩, rfl⟩)
  go_upto_region 51 with (go_at_call 78; refine (growRecord_none HBK.out HN.out.2.2.2.2.2.2.2.2.2.2.2.2.2.2.2.2.2.2.2.2.2.2).mono ?_; rintro e w' ⟨⟨_, rfl⟩, rfl⟩)
  go_upto_region 52 with fail
  go_upto_region 53 with (go_at_call 79; refine (lookInt_any HBK.out HInt.out).mono ?_; rintro e w5 ⟨rfl, k1⟩; have HBKn := hid (HBK.out.below k1); have HKn := hid (HK.out.below k1); have HInt := hid (HInt.out.kept fun b hb => k1.block b (HInt.out.lot.lt hb)); have HPair := hid (HPair.out.kept fun b hb => k1.block b (HPair.out.lot.lt hb)); clear k1 HBK HK; have HBK := HBKn; have HK := HKn; clear HBKn HKn)
  go_upto_region 54 with (go_at_call 80; refine (lookByte_none HBK.out HN.out.1).mono ?_; rintro e w' ⟨rfl, rfl⟩)
  go_upto_region 55 with (go_at_call 81; refine (lookFloat_none HBK.out HN.out.2.1).mono ?_; rintro e w' ⟨rfl, rfl⟩)
  go_upto_region 56 with (go_at_call 82; refine (lookID_none HBK.out HN.out.2.2.1).mono ?_; rintro e w' ⟨rfl, rfl⟩)
  go_upto_region 57 with (go_at_call 83; refine (lookPoint_none HBK.out HN.out.2.2.2.1).mono ?_; rintro e w' ⟨rfl, rfl⟩)
  go_upto_region 58 with (go_at_call 84; refine (lookBox_none HBK.out HN.out.2.2.2.2.1).mono ?_; rintro e w' ⟨rfl, rfl⟩)
  go_upto_region 59 with (go_at_call 85; refine (lookNear_none HBK.out HN.out.2.2.2.2.2.1).mono ?_; rintro e w' ⟨rfl, rfl⟩)
  go_upto_region 60 with (go_at_call 86; refine (lookRoad_none HBK.out HN.out.2.2.2.2.2.2.1).mono ?_; rintro e w' ⟨rfl, rfl⟩)
  go_upto_region 61 with (go_at_call 87; refine (lookLeg_none HBK.out HN.out.2.2.2.2.2.2.2.1).mono ?_; rintro e w' ⟨rfl, rfl⟩)
  go_upto_region 62 with (go_at_call 88; refine (lookStop_none HBK.out HN.out.2.2.2.2.2.2.2.2.1).mono ?_; rintro e w' ⟨rfl, rfl⟩)
  go_upto_region 63 with (go_at_call 89; refine (lookWaiting_none HBK.out HN.out.2.2.2.2.2.2.2.2.2.1).mono ?_; rintro e w' ⟨rfl, rfl⟩)
  go_upto_region 64 with (go_at_call 90; refine (lookIdle_none HBK.out HN.out.2.2.2.2.2.2.2.2.2.2.1).mono ?_; rintro e w' ⟨rfl, rfl⟩)
  go_upto_region 65 with (go_at_call 91; refine (lookPair_any HBK.out HPair.out).mono ?_; rintro e w6 ⟨rfl, k1⟩; have HBKn := hid (HBK.out.below k1); have HKn := hid (HK.out.below k1); have HInt := hid (HInt.out.kept fun b hb => k1.block b (HInt.out.lot.lt hb)); have HPair := hid (HPair.out.kept fun b hb => k1.block b (HPair.out.lot.lt hb)); clear k1 HBK HK; have HBK := HBKn; have HK := HKn; clear HBKn HKn)
  go_upto_region 66 with (go_at_call 92; refine (lookEdge_none HBK.out HN.out.2.2.2.2.2.2.2.2.2.2.2.1).mono ?_; rintro e w' ⟨rfl, rfl⟩)
  go_upto_region 67 with (go_at_call 93; refine (lookJourney_none HBK.out HN.out.2.2.2.2.2.2.2.2.2.2.2.2.1).mono ?_; rintro e w' ⟨rfl, rfl⟩)
  go_upto_region 68 with (go_at_call 94; refine (lookStanding_none HBK.out HN.out.2.2.2.2.2.2.2.2.2.2.2.2.2.1).mono ?_; rintro e w' ⟨rfl, rfl⟩)
  go_upto_region 69 with (go_at_call 95; refine (lookEntry_none HBK.out HN.out.2.2.2.2.2.2.2.2.2.2.2.2.2.2.1).mono ?_; rintro e w' ⟨rfl, rfl⟩)
  go_upto_region 70 with (go_at_call 96; refine (lookTrip_none HBK.out HN.out.2.2.2.2.2.2.2.2.2.2.2.2.2.2.2.1).mono ?_; rintro e w' ⟨rfl, rfl⟩)
  go_upto_region 71 with (go_at_call 97; refine (lookReply_none HBK.out HN.out.2.2.2.2.2.2.2.2.2.2.2.2.2.2.2.2.1).mono ?_; rintro e w' ⟨rfl, rfl⟩)
  go_upto_region 72 with (go_at_call 98; refine (lookFrame_none HBK.out HN.out.2.2.2.2.2.2.2.2.2.2.2.2.2.2.2.2.2.1).mono ?_; rintro e w' ⟨rfl, rfl⟩)
  go_upto_region 73 with (go_at_call 99; refine (lookCommand_none HBK.out HN.out.2.2.2.2.2.2.2.2.2.2.2.2.2.2.2.2.2.2.1).mono ?_; rintro e w' ⟨rfl, rfl⟩)
  go_upto_region 74 with (go_at_call 100; refine (lookIntList_none HBK.out HN.out.2.2.2.2.2.2.2.2.2.2.2.2.2.2.2.2.2.2.2.1).mono ?_; rintro e w' ⟨rfl, rfl⟩)
  go_upto_region 75 with (go_at_call 101; refine (lookByteList_none HBK.out HN.out.2.2.2.2.2.2.2.2.2.2.2.2.2.2.2.2.2.2.2.2.1).mono ?_; rintro e w' ⟨rfl, rfl⟩)
  go_upto_region 76 with (go_at_call 102; refine (lookReplyList_none HBK.out HN.out.2.2.2.2.2.2.2.2.2.2.2.2.2.2.2.2.2.2.2.2.2.1).mono ?_; rintro e w' ⟨rfl, rfl⟩)
  go_upto_region 77 with (go_at_call 103; refine (lookRecord_none HBK.out HN.out.2.2.2.2.2.2.2.2.2.2.2.2.2.2.2.2.2.2.2.2.2.2).mono ?_; rintro e w' ⟨rfl, rfl⟩)
  go_wp2
  go_ret
  exact ⟨rfl, HK.out⟩
end Go.Proofs.YtjhomkdnhdhffaaGreat
