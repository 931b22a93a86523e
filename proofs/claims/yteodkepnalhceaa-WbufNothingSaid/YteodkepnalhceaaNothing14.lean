/- WbufNothing: nothing is no buffer: for every input the law returns true. -/
import Derived.Test.YteodkepnalhceaaLaw14
namespace Go.Proofs
open Go.RowKit Sc

set_option maxRecDepth 100000 in
set_option maxHeartbeats 2000000 in
theorem nothing14_any (lba : Int) (w : World) : Calls Try.prog 12 #[.int .i64 lba] w (Tru w) := by
  have hset := fun (W : World) => bufSet_gen (.pointer none) [] W ((bufPuts_nil W).mono fun _ _ ⟨h1, h2⟩ => ⟨_, h1, SlAt.nil, by subst h2; exact Below.refl _ _⟩) (by simp) (by simp)
  have HSET := Lib.hid hset
  clear hset
  go_enter Try.func12, Try.ntmps12
  go_wp2_with fail
  refine (bufGet_nil lba _).mono ?_
  rintro e w1 ⟨rfl, rfl⟩
  go_wp2_with fail
  refine (HSET.out _).mono ?_
  rintro e w1 ⟨b, rfl, hs1, hb1⟩
  have hs1' : SetIs (New w w1) w1 (.pointer (some ⟨b, 0, none⟩)) 0 [] := by
    rw [show singles [] = [] from rfl, normE_nil] at hs1; exact hs1
  have HS1 := Lib.hid hs1
  have HS1' := Lib.hid hs1'
  have HB1 := Lib.hid hb1
  clear hs1 hs1' hb1
  go_wp2_with fail
  refine (data_any 1 _).mono ?_
  rintro e w2 ⟨dv, rfl, hd, hb2⟩
  obtain ⟨dp, dc, rfl⟩ := shape_of hd (dataB_length 1)
  have hb02 := Below.up HB1.out hb2
  have hs2 := HS1'.out.up hb2
  have HD := Lib.hid hd
  have HB2 := Lib.hid hb2
  have HB02 := Lib.hid hb02
  have HS2 := Lib.hid hs2
  clear hd hb2 hb02 hs2
  go_wp2_with fail
  refine (bufWrite_nil _ 1 1 (by omega) _).mono ?_
  rintro e w3 ⟨rfl, hb3⟩
  have hb23 := Below.up (below_alloc w2 _) hb3
  have hb03 := Below.up HB02.out hb23
  have hs3 := HS2.out.up hb23
  have HB3 := Lib.hid hb3
  have HB23 := Lib.hid hb23
  have HB03 := Lib.hid hb03
  have HS3 := Lib.hid hs3
  clear hb3 hb23 hb03 hs3
  go_wp2_with fail
  refine (bufWrite_none none _).mono ?_
  rintro e w4 ⟨rfl, hb4⟩
  have hb04 := Below.up HB03.out hb4
  have hs4 := HS3.out.up hb4
  have HB4 := Lib.hid hb4
  have HB04 := Lib.hid hb04
  have HS4 := Lib.hid hs4
  clear hb4 hb04 hs4
  go_wp2_with fail
  refine (bufLen_nil _).mono ?_
  rintro e w5 ⟨rfl, rfl⟩
  go_wp2_with fail
  refine (bufPuts_nil _).mono ?_
  rintro e w5 ⟨rfl, rfl⟩
  go_wp2_with fail
  refine (setCount_any _ _ _ _ _ HS4.out (by simp) (by simp)).mono ?_
  rintro e w6 ⟨rfl, hb6⟩
  have hb06 := Below.up HB04.out hb6
  rw [show cntE [] = 0 from rfl]
  have HB6 := Lib.hid hb6
  have HB06 := Lib.hid hb06
  clear hb6 hb06
  go_wp2_with fail
  refine (awake14 _).mono ?_
  rintro e w7 ⟨rfl, hb7⟩
  have hb07 := Below.up HB06.out hb7
  have HB7 := Lib.hid hb7
  have HB07 := Lib.hid hb07
  clear hb7 hb07
  go_wp2
  go_ret
  exact ⟨rfl, HB07.out⟩
end Go.Proofs
