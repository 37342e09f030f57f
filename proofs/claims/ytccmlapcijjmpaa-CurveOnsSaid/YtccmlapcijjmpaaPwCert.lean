/- A part of the proof: PwCert. -/
import Derived.Test.YtccmlapcijjmpaaPwPrime
namespace Pw
/-! ### certificates of the three primes -/

theorem pr_6 : Pr 991 := prime_small 34 (by decide) (by decide +kernel)
theorem pr_7 : Pr 103 := prime_small 13 (by decide) (by decide +kernel)
theorem pr_5 : Pr 8574133 := by
  have h0 := pock_step (n := 8574133) (q := 991) (r := 8652) (a := 2) 24 (by decide) pr_6 (by decide +kernel) (by decide +kernel) (by decide +kernel) (by decide +kernel)
  have h1 := pock_step (n := 8574133) (q := 103) (r := 83244) (a := 2) 24 (by decide) pr_7 (by decide +kernel) (by decide +kernel) (by decide +kernel) (by decide +kernel)
  exact pock (F := 991 * 103) (by decide) (by decide +kernel) fun s hs hsn => two_div (h0 s hs hsn) (h1 s hs hsn) (by decide +kernel)
theorem pr_8 : Pr 127 := prime_small 14 (by decide) (by decide +kernel)
theorem pr_4 : Pr 1919519569386763 := by
  have h0 := pock_step (n := 1919519569386763) (q := 8574133) (r := 223873314) (a := 2) 51 (by decide) pr_5 (by decide +kernel) (by decide +kernel) (by decide +kernel) (by decide +kernel)
  have h1 := pock_step (n := 1919519569386763) (q := 127) (r := 15114327318006) (a := 2) 51 (by decide) pr_8 (by decide +kernel) (by decide +kernel) (by decide +kernel) (by decide +kernel)
  exact pock (F := 8574133 * 127) (by decide) (by decide +kernel) fun s hs hsn => two_div (h0 s hs hsn) (h1 s hs hsn) (by decide +kernel)
theorem pr_11 : Pr 569003 := prime_small 757 (by decide) (by decide +kernel)
theorem pr_10 : Pr 2773320623 := by
  have h0 := pock_step (n := 2773320623) (q := 569003) (r := 4874) (a := 2) 32 (by decide) pr_11 (by decide +kernel) (by decide +kernel) (by decide +kernel) (by decide +kernel)
  exact pock (F := 569003) (by decide) (by decide +kernel) h0
theorem pr_9 : Pr 72106336199 := by
  have h0 := pock_step (n := 72106336199) (q := 2773320623) (r := 26) (a := 2) 37 (by decide) pr_10 (by decide +kernel) (by decide +kernel) (by decide +kernel) (by decide +kernel)
  exact pock (F := 2773320623) (by decide) (by decide +kernel) h0
theorem pr_3 : Pr 75445702479781427272750846543864801 := by
  have h0 := pock_step (n := 75445702479781427272750846543864801) (q := 1919519569386763) (r := 39304471641247389600) (a := 2) 116 (by decide) pr_4 (by decide +kernel) (by decide +kernel) (by decide +kernel) (by decide +kernel)
  have h1 := pock_step (n := 75445702479781427272750846543864801) (q := 72106336199) (r := 1046311689884858398375200) (a := 2) 116 (by decide) pr_9 (by decide +kernel) (by decide +kernel) (by decide +kernel) (by decide +kernel)
  exact pock (F := 1919519569386763 * 72106336199) (by decide) (by decide +kernel) fun s hs hsn => two_div (h0 s hs hsn) (h1 s hs hsn) (by decide +kernel)
theorem pr_13 : Pr 430751 := prime_small 659 (by decide) (by decide +kernel)
theorem pr_14 : Pr 4153 := prime_small 67 (by decide) (by decide +kernel)
theorem pr_12 : Pr 31757755568855353 := by
  have h0 := pock_step (n := 31757755568855353) (q := 430751) (r := 73726481352) (a := 2) 55 (by decide) pr_13 (by decide +kernel) (by decide +kernel) (by decide +kernel) (by decide +kernel)
  have h1 := pock_step (n := 31757755568855353) (q := 4153) (r := 7646943310584) (a := 2) 55 (by decide) pr_14 (by decide +kernel) (by decide +kernel) (by decide +kernel) (by decide +kernel)
  exact pock (F := 430751 * 4153) (by decide) (by decide +kernel) fun s hs hsn => two_div (h0 s hs hsn) (h1 s hs hsn) (by decide +kernel)
theorem pr_2 : Pr 74058212732561358302231226437062788676166966415465897661863160754340907 := by
  have h0 := pock_step (n := 74058212732561358302231226437062788676166966415465897661863160754340907) (q := 75445702479781427272750846543864801) (r := 981609426360740691344999861639072106) (a := 2) 236 (by decide) pr_3 (by decide +kernel) (by decide +kernel) (by decide +kernel) (by decide +kernel)
  have h1 := pock_step (n := 74058212732561358302231226437062788676166966415465897661863160754340907) (q := 31757755568855353) (r := 2331972502653487852620185443007392165117953542933313402) (a := 2) 236 (by decide) pr_12 (by decide +kernel) (by decide +kernel) (by decide +kernel) (by decide +kernel)
  exact pock (F := 75445702479781427272750846543864801 * 31757755568855353) (by decide) (by decide +kernel) fun s hs hsn => two_div (h0 s hs hsn) (h1 s hs hsn) (by decide +kernel)
theorem prime_P : Pr 57896044618658097711785492504343953926634992332820282019728792003956564819949 := by
  have h0 := pock_step (n := 57896044618658097711785492504343953926634992332820282019728792003956564819949) (q := 74058212732561358302231226437062788676166966415465897661863160754340907) (r := 781764) (a := 2) 255 (by decide) pr_2 (by decide +kernel) (by decide +kernel) (by decide +kernel) (by decide +kernel)
  exact pock (F := 74058212732561358302231226437062788676166966415465897661863160754340907) (by decide) (by decide +kernel) h0
theorem pr_21 : Pr 1224481 := prime_small 1109 (by decide) (by decide +kernel)
theorem pr_22 : Pr 531581 := prime_small 732 (by decide) (by decide +kernel)
theorem pr_20 : Pr 1257559732178653 := by
  have h0 := pock_step (n := 1257559732178653) (q := 1224481) (r := 1027014492) (a := 2) 51 (by decide) pr_21 (by decide +kernel) (by decide +kernel) (by decide +kernel) (by decide +kernel)
  have h1 := pock_step (n := 1257559732178653) (q := 531581) (r := 2365697292) (a := 2) 51 (by decide) pr_22 (by decide +kernel) (by decide +kernel) (by decide +kernel) (by decide +kernel)
  exact pock (F := 1224481 * 531581) (by decide) (by decide +kernel) fun s hs hsn => two_div (h0 s hs hsn) (h1 s hs hsn) (by decide +kernel)
theorem pr_19 : Pr 4434155615661930479 := by
  have h0 := pock_step (n := 4434155615661930479) (q := 1257559732178653) (r := 3526) (a := 2) 62 (by decide) pr_20 (by decide +kernel) (by decide +kernel) (by decide +kernel) (by decide +kernel)
  exact pock (F := 1257559732178653) (by decide) (by decide +kernel) h0
theorem pr_18 : Pr 172054593956031949258510691 := by
  have h0 := pock_step (n := 172054593956031949258510691) (q := 4434155615661930479) (r := 38802110) (a := 2) 88 (by decide) pr_19 (by decide +kernel) (by decide +kernel) (by decide +kernel) (by decide +kernel)
  exact pock (F := 4434155615661930479) (by decide) (by decide +kernel) h0
theorem pr_17 : Pr 19757330305831588566944191468367130476339 := by
  have h0 := pock_step (n := 19757330305831588566944191468367130476339) (q := 172054593956031949258510691) (r := 114831751082918) (a := 2) 134 (by decide) pr_18 (by decide +kernel) (by decide +kernel) (by decide +kernel) (by decide +kernel)
  exact pock (F := 172054593956031949258510691) (by decide) (by decide +kernel) h0
theorem pr_16 : Pr 276602624281642239937218680557139826668747 := by
  have h0 := pock_step (n := 276602624281642239937218680557139826668747) (q := 19757330305831588566944191468367130476339) (r := 14) (a := 2) 138 (by decide) pr_17 (by decide +kernel) (by decide +kernel) (by decide +kernel) (by decide +kernel)
  exact pock (F := 19757330305831588566944191468367130476339) (by decide) (by decide +kernel) h0
theorem prime_L : Pr 7237005577332262213973186563042994240857116359379907606001950938285454250989 := by
  have h0 := pock_step (n := 7237005577332262213973186563042994240857116359379907606001950938285454250989) (q := 276602624281642239937218680557139826668747) (r := 26163907866482859529727157400808004) (a := 2) 253 (by decide) pr_16 (by decide +kernel) (by decide +kernel) (by decide +kernel) (by decide +kernel)
  exact pock (F := 276602624281642239937218680557139826668747) (by decide) (by decide +kernel) h0
theorem pr_29 : Pr 28859 := prime_small 172 (by decide) (by decide +kernel)
theorem pr_30 : Pr 2281 := prime_small 50 (by decide) (by decide +kernel)
theorem pr_28 : Pr 5171003929967 := by
  have h0 := pock_step (n := 5171003929967) (q := 28859) (r := 179181674) (a := 2) 43 (by decide) pr_29 (by decide +kernel) (by decide +kernel) (by decide +kernel) (by decide +kernel)
  have h1 := pock_step (n := 5171003929967) (q := 2281) (r := 2266989886) (a := 2) 43 (by decide) pr_30 (by decide +kernel) (by decide +kernel) (by decide +kernel) (by decide +kernel)
  exact pock (F := 28859 * 2281) (by decide) (by decide +kernel) fun s hs hsn => two_div (h0 s hs hsn) (h1 s hs hsn) (by decide +kernel)
theorem pr_27 : Pr 22561162540501040539 := by
  have h0 := pock_step (n := 22561162540501040539) (q := 5171003929967) (r := 4363014) (a := 2) 65 (by decide) pr_28 (by decide +kernel) (by decide +kernel) (by decide +kernel) (by decide +kernel)
  exact pock (F := 5171003929967) (by decide) (by decide +kernel) h0
theorem pr_32 : Pr 8053 := prime_small 92 (by decide) (by decide +kernel)
theorem pr_33 : Pr 3911 := prime_small 65 (by decide) (by decide +kernel)
theorem pr_31 : Pr 1013266244677 := by
  have h0 := pock_step (n := 1013266244677) (q := 8053) (r := 125824692) (a := 2) 40 (by decide) pr_32 (by decide +kernel) (by decide +kernel) (by decide +kernel) (by decide +kernel)
  have h1 := pock_step (n := 1013266244677) (q := 3911) (r := 259081116) (a := 2) 40 (by decide) pr_33 (by decide +kernel) (by decide +kernel) (by decide +kernel) (by decide +kernel)
  exact pock (F := 8053 * 3911) (by decide) (by decide +kernel) fun s hs hsn => two_div (h0 s hs hsn) (h1 s hs hsn) (by decide +kernel)
theorem pr_26 : Pr 203852586375664218368381551393371968928013 := by
  have h0 := pock_step (n := 203852586375664218368381551393371968928013) (q := 22561162540501040539) (r := 9035553288077017678308) (a := 2) 138 (by decide) pr_27 (by decide +kernel) (by decide +kernel) (by decide +kernel) (by decide +kernel)
  have h1 := pock_step (n := 203852586375664218368381551393371968928013) (q := 1013266244677) (r := 201183635048107748313396499356) (a := 2) 138 (by decide) pr_31 (by decide +kernel) (by decide +kernel) (by decide +kernel) (by decide +kernel)
  exact pock (F := 22561162540501040539 * 1013266244677) (by decide) (by decide +kernel) fun s hs hsn => two_div (h0 s hs hsn) (h1 s hs hsn) (by decide +kernel)
theorem pr_25 : Pr 104719073621178708975837602950775180438320278101 := by
  have h0 := pock_step (n := 104719073621178708975837602950775180438320278101) (q := 203852586375664218368381551393371968928013) (r := 513700) (a := 2) 157 (by decide) pr_26 (by decide +kernel) (by decide +kernel) (by decide +kernel) (by decide +kernel)
  exact pock (F := 203852586375664218368381551393371968928013) (by decide) (by decide +kernel) h0
theorem pr_24 : Pr 27413359092552162435694767700453926735143482401279781 := by
  have h0 := pock_step (n := 27413359092552162435694767700453926735143482401279781) (q := 104719073621178708975837602950775180438320278101) (r := 261780) (a := 2) 175 (by decide) pr_25 (by decide +kernel) (by decide +kernel) (by decide +kernel) (by decide +kernel)
  exact pock (F := 104719073621178708975837602950775180438320278101) (by decide) (by decide +kernel) h0
theorem prime_T : Pr 14474011154664524427946373126085988481603263447650325797860494125407373907997 := by
  have h0 := pock_step (n := 14474011154664524427946373126085988481603263447650325797860494125407373907997) (q := 27413359092552162435694767700453926735143482401279781) (r := 527991155910437724961516) (a := 2) 253 (by decide) pr_24 (by decide +kernel) (by decide +kernel) (by decide +kernel) (by decide +kernel)
  exact pock (F := 27413359092552162435694767700453926735143482401279781) (by decide) (by decide +kernel) h0

end Pw
