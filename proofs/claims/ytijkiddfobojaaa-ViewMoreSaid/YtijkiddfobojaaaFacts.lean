import Derived.Test.YtijkiddfobojaaaAbG
import Derived.Test.YtijkiddfobojaaaProg
/-! Facts on the program's types, written by program (facts.py). -/
namespace Go.Proofs.Ytijkiddfobojaaa
set_option linter.all false
open Go Go.Ab Go.Proofs
set_option maxRecDepth 100000
@[go_sem] theorem mixed : Try.prog.follows .mixedOrders = true := by kernel_rfl
@[go_sem] theorem tsz3 : tsz Try.prog 3 = 1 := by kernel_rfl
@[go_sem] theorem tby3 : tbytes Try.prog 3 = 8 := by kernel_rfl
@[go_sem] theorem tag3 : tagg Try.prog 3 = some false := by kernel_rfl
@[go_sem] theorem tsz4 : tsz Try.prog 4 = 1 := by kernel_rfl
@[go_sem] theorem tby4 : tbytes Try.prog 4 = 1 := by kernel_rfl
@[go_sem] theorem tag4 : tagg Try.prog 4 = some false := by kernel_rfl
@[go_sem] theorem tsz22 : tsz Try.prog 22 = 1 := by kernel_rfl
@[go_sem] theorem tby22 : tbytes Try.prog 22 = 8 := by kernel_rfl
@[go_sem] theorem tag22 : tagg Try.prog 22 = some false := by kernel_rfl
@[go_sem] theorem tsz23 : tsz Try.prog 23 = 1 := by kernel_rfl
@[go_sem] theorem tby23 : tbytes Try.prog 23 = 24 := by kernel_rfl
@[go_sem] theorem tag23 : tagg Try.prog 23 = some false := by kernel_rfl
@[go_sem] theorem tsz25 : tsz Try.prog 25 = 4 := by kernel_rfl
@[go_sem] theorem tby25 : tbytes Try.prog 25 = 48 := by kernel_rfl
@[go_sem] theorem tag25 : tagg Try.prog 25 = some true := by kernel_rfl
@[go_sem] theorem tsz27 : tsz Try.prog 27 = 1 := by kernel_rfl
@[go_sem] theorem tby27 : tbytes Try.prog 27 = 24 := by kernel_rfl
@[go_sem] theorem tag27 : tagg Try.prog 27 = some false := by kernel_rfl
@[go_sem] theorem tsz32 : tsz Try.prog 32 = 1 := by kernel_rfl
@[go_sem] theorem tby32 : tbytes Try.prog 32 = 24 := by kernel_rfl
@[go_sem] theorem tag32 : tagg Try.prog 32 = some false := by kernel_rfl
@[go_sem] theorem tsz33 : tsz Try.prog 33 = 1 := by kernel_rfl
@[go_sem] theorem tby33 : tbytes Try.prog 33 = 24 := by kernel_rfl
@[go_sem] theorem tag33 : tagg Try.prog 33 = some false := by kernel_rfl
@[go_sem] theorem tsz34 : tsz Try.prog 34 = 16 := by kernel_rfl
@[go_sem] theorem tby34 : tbytes Try.prog 34 = 128 := by kernel_rfl
@[go_sem] theorem tag34 : tagg Try.prog 34 = some true := by kernel_rfl
@[go_sem] theorem tsz36 : tsz Try.prog 36 = 2 := by kernel_rfl
@[go_sem] theorem tby36 : tbytes Try.prog 36 = 16 := by kernel_rfl
@[go_sem] theorem tag36 : tagg Try.prog 36 = some true := by kernel_rfl
@[go_sem] theorem tsz38 : tsz Try.prog 38 = 5 := by kernel_rfl
@[go_sem] theorem tby38 : tbytes Try.prog 38 = 40 := by kernel_rfl
@[go_sem] theorem tag38 : tagg Try.prog 38 = some true := by kernel_rfl
@[go_sem] theorem tsz40 : tsz Try.prog 40 = 2 := by kernel_rfl
@[go_sem] theorem tby40 : tbytes Try.prog 40 = 16 := by kernel_rfl
@[go_sem] theorem tag40 : tagg Try.prog 40 = some true := by kernel_rfl
@[go_sem] theorem tsz41 : tsz Try.prog 41 = 4 := by kernel_rfl
@[go_sem] theorem tby41 : tbytes Try.prog 41 = 96 := by kernel_rfl
@[go_sem] theorem tag41 : tagg Try.prog 41 = some true := by kernel_rfl
@[go_sem] theorem tsz43 : tsz Try.prog 43 = 35 := by kernel_rfl
@[go_sem] theorem tby43 : tbytes Try.prog 43 = 376 := by kernel_rfl
@[go_sem] theorem tag43 : tagg Try.prog 43 = some true := by kernel_rfl
@[go_sem] theorem tsz45 : tsz Try.prog 45 = 6 := by kernel_rfl
@[go_sem] theorem tby45 : tbytes Try.prog 45 = 80 := by kernel_rfl
@[go_sem] theorem tag45 : tagg Try.prog 45 = some true := by kernel_rfl
@[go_sem] theorem tsz47 : tsz Try.prog 47 = 51 := by kernel_rfl
@[go_sem] theorem tby47 : tbytes Try.prog 47 = 632 := by kernel_rfl
@[go_sem] theorem tag47 : tagg Try.prog 47 = some true := by kernel_rfl
@[go_sem] theorem tsz55 : tsz Try.prog 55 = 2 := by kernel_rfl
@[go_sem] theorem tby55 : tbytes Try.prog 55 = 16 := by kernel_rfl
@[go_sem] theorem tag55 : tagg Try.prog 55 = some true := by kernel_rfl
@[go_sem] theorem tsz76 : tsz Try.prog 76 = 1 := by kernel_rfl
@[go_sem] theorem tby76 : tbytes Try.prog 76 = 8 := by kernel_rfl
@[go_sem] theorem tag76 : tagg Try.prog 76 = some false := by kernel_rfl
@[go_sem] theorem tsz81 : tsz Try.prog 81 = 1 := by kernel_rfl
@[go_sem] theorem tby81 : tbytes Try.prog 81 = 8 := by kernel_rfl
@[go_sem] theorem tag81 : tagg Try.prog 81 = some false := by kernel_rfl
@[go_sem] theorem tsz83 : tsz Try.prog 83 = 7 := by kernel_rfl
@[go_sem] theorem tby83 : tbytes Try.prog 83 = 104 := by kernel_rfl
@[go_sem] theorem tag83 : tagg Try.prog 83 = some true := by kernel_rfl
@[go_sem] theorem tsz95 : tsz Try.prog 95 = 5 := by kernel_rfl
@[go_sem] theorem tby95 : tbytes Try.prog 95 = 72 := by kernel_rfl
@[go_sem] theorem tag95 : tagg Try.prog 95 = some true := by kernel_rfl
@[go_sem] theorem tsz104 : tsz Try.prog 104 = 2 := by kernel_rfl
@[go_sem] theorem tby104 : tbytes Try.prog 104 = 16 := by kernel_rfl
@[go_sem] theorem tag104 : tagg Try.prog 104 = some true := by kernel_rfl
@[go_sem] theorem tsz109 : tsz Try.prog 109 = 1 := by kernel_rfl
@[go_sem] theorem tby109 : tbytes Try.prog 109 = 8 := by kernel_rfl
@[go_sem] theorem tag109 : tagg Try.prog 109 = some false := by kernel_rfl
@[go_sem] theorem tsz111 : tsz Try.prog 111 = 2 := by kernel_rfl
@[go_sem] theorem tby111 : tbytes Try.prog 111 = 32 := by kernel_rfl
@[go_sem] theorem tag111 : tagg Try.prog 111 = some true := by kernel_rfl
@[go_sem] theorem tsz125 : tsz Try.prog 125 = 6 := by kernel_rfl
@[go_sem] theorem tby125 : tbytes Try.prog 125 = 48 := by kernel_rfl
@[go_sem] theorem tag125 : tagg Try.prog 125 = some true := by kernel_rfl
@[go_sem] theorem tsz132 : tsz Try.prog 132 = 1 := by kernel_rfl
@[go_sem] theorem tby132 : tbytes Try.prog 132 = 8 := by kernel_rfl
@[go_sem] theorem tag132 : tagg Try.prog 132 = some false := by kernel_rfl
@[go_sem] theorem tsz167 : tsz Try.prog 167 = 1 := by kernel_rfl
@[go_sem] theorem tby167 : tbytes Try.prog 167 = 8 := by kernel_rfl
@[go_sem] theorem tag167 : tagg Try.prog 167 = some false := by kernel_rfl
@[go_sem] theorem tfi25_0 : tfield Try.prog 25 0 = some (0, 3) := by kernel_rfl
@[go_sem] theorem tfi25_1 : tfield Try.prog 25 1 = some (1, 22) := by kernel_rfl
@[go_sem] theorem tfi25_2 : tfield Try.prog 25 2 = some (2, 22) := by kernel_rfl
@[go_sem] theorem tfi25_3 : tfield Try.prog 25 3 = some (3, 23) := by kernel_rfl
@[go_sem] theorem tfi40_0 : tfield Try.prog 40 0 = some (0, 22) := by kernel_rfl
@[go_sem] theorem tfi40_1 : tfield Try.prog 40 1 = some (1, 22) := by kernel_rfl
@[go_sem] theorem tfi43_0 : tfield Try.prog 43 0 = some (0, 34) := by kernel_rfl
@[go_sem] theorem tfi43_1 : tfield Try.prog 43 1 = some (16, 22) := by kernel_rfl
@[go_sem] theorem tfi43_2 : tfield Try.prog 43 2 = some (17, 27) := by kernel_rfl
@[go_sem] theorem tfi43_3 : tfield Try.prog 43 3 = some (18, 36) := by kernel_rfl
@[go_sem] theorem tfi43_4 : tfield Try.prog 43 4 = some (20, 22) := by kernel_rfl
@[go_sem] theorem tfi43_5 : tfield Try.prog 43 5 = some (21, 22) := by kernel_rfl
@[go_sem] theorem tfi43_6 : tfield Try.prog 43 6 = some (22, 3) := by kernel_rfl
@[go_sem] theorem tfi43_7 : tfield Try.prog 43 7 = some (23, 38) := by kernel_rfl
@[go_sem] theorem tfi43_8 : tfield Try.prog 43 8 = some (28, 32) := by kernel_rfl
@[go_sem] theorem tfi43_9 : tfield Try.prog 43 9 = some (29, 40) := by kernel_rfl
@[go_sem] theorem tfi43_10 : tfield Try.prog 43 10 = some (31, 41) := by kernel_rfl
@[go_sem] theorem tfi45_0 : tfield Try.prog 45 0 = some (0, 27) := by kernel_rfl
@[go_sem] theorem tfi45_1 : tfield Try.prog 45 1 = some (1, 27) := by kernel_rfl
@[go_sem] theorem tfi45_2 : tfield Try.prog 45 2 = some (2, 36) := by kernel_rfl
@[go_sem] theorem tfi45_3 : tfield Try.prog 45 3 = some (4, 22) := by kernel_rfl
@[go_sem] theorem tfi45_4 : tfield Try.prog 45 4 = some (5, 22) := by kernel_rfl
@[go_sem] theorem tfi47_0 : tfield Try.prog 47 0 = some (0, 22) := by kernel_rfl
@[go_sem] theorem tfi47_1 : tfield Try.prog 47 1 = some (1, 3) := by kernel_rfl
@[go_sem] theorem tfi47_2 : tfield Try.prog 47 2 = some (2, 27) := by kernel_rfl
@[go_sem] theorem tfi47_3 : tfield Try.prog 47 3 = some (3, 3) := by kernel_rfl
@[go_sem] theorem tfi47_4 : tfield Try.prog 47 4 = some (4, 4) := by kernel_rfl
@[go_sem] theorem tfi47_5 : tfield Try.prog 47 5 = some (5, 32) := by kernel_rfl
@[go_sem] theorem tfi47_6 : tfield Try.prog 47 6 = some (6, 32) := by kernel_rfl
@[go_sem] theorem tfi47_7 : tfield Try.prog 47 7 = some (7, 33) := by kernel_rfl
@[go_sem] theorem tfi47_8 : tfield Try.prog 47 8 = some (8, 43) := by kernel_rfl
@[go_sem] theorem tfi47_9 : tfield Try.prog 47 9 = some (43, 45) := by kernel_rfl
@[go_sem] theorem tfi47_10 : tfield Try.prog 47 10 = some (49, 32) := by kernel_rfl
@[go_sem] theorem tfi47_11 : tfield Try.prog 47 11 = some (50, 32) := by kernel_rfl
@[go_sem] theorem tfi55_0 : tfield Try.prog 55 0 = some (0, 22) := by kernel_rfl
@[go_sem] theorem tfi55_1 : tfield Try.prog 55 1 = some (1, 3) := by kernel_rfl
@[go_sem] theorem tfi83_0 : tfield Try.prog 83 0 = some (0, 25) := by kernel_rfl
@[go_sem] theorem tfi83_1 : tfield Try.prog 83 1 = some (4, 81) := by kernel_rfl
@[go_sem] theorem tfi83_2 : tfield Try.prog 83 2 = some (5, 32) := by kernel_rfl
@[go_sem] theorem tfi83_3 : tfield Try.prog 83 3 = some (6, 32) := by kernel_rfl
@[go_sem] theorem tfi95_0 : tfield Try.prog 95 0 = some (0, 25) := by kernel_rfl
@[go_sem] theorem tfi95_1 : tfield Try.prog 95 1 = some (4, 27) := by kernel_rfl
@[go_sem] theorem tfi104_0 : tfield Try.prog 104 0 = some (0, 3) := by kernel_rfl
@[go_sem] theorem tfi104_1 : tfield Try.prog 104 1 = some (1, 3) := by kernel_rfl
@[go_sem] theorem tfi111_0 : tfield Try.prog 111 0 = some (0, 23) := by kernel_rfl
@[go_sem] theorem tfi111_1 : tfield Try.prog 111 1 = some (1, 109) := by kernel_rfl
@[go_sem] theorem tfi125_0 : tfield Try.prog 125 0 = some (0, 3) := by kernel_rfl
@[go_sem] theorem tfi125_1 : tfield Try.prog 125 1 = some (1, 3) := by kernel_rfl
@[go_sem] theorem tfi125_4 : tfield Try.prog 125 4 = some (4, 3) := by kernel_rfl
@[go_sem] theorem tel3 : telem Try.prog 3 = none := by kernel_rfl
@[go_sem] theorem tar3 : tarr Try.prog 3 = none := by kernel_rfl
@[go_sem] theorem tes3 : esz Try.prog 3 = none := by kernel_rfl
@[go_sem] theorem tel4 : telem Try.prog 4 = none := by kernel_rfl
@[go_sem] theorem tar4 : tarr Try.prog 4 = none := by kernel_rfl
@[go_sem] theorem tes4 : esz Try.prog 4 = none := by kernel_rfl
@[go_sem] theorem tel5 : telem Try.prog 5 = none := by kernel_rfl
@[go_sem] theorem tar5 : tarr Try.prog 5 = none := by kernel_rfl
@[go_sem] theorem tes5 : esz Try.prog 5 = none := by kernel_rfl
@[go_sem] theorem tel9 : telem Try.prog 9 = none := by kernel_rfl
@[go_sem] theorem tar9 : tarr Try.prog 9 = none := by kernel_rfl
@[go_sem] theorem tes9 : esz Try.prog 9 = none := by kernel_rfl
@[go_sem] theorem tel22 : telem Try.prog 22 = none := by kernel_rfl
@[go_sem] theorem tar22 : tarr Try.prog 22 = none := by kernel_rfl
@[go_sem] theorem tes22 : esz Try.prog 22 = none := by kernel_rfl
@[go_sem] theorem tel23 : telem Try.prog 23 = some 47 := by kernel_rfl
@[go_sem] theorem tar23 : tarr Try.prog 23 = none := by kernel_rfl
@[go_sem] theorem tes23 : esz Try.prog 23 = some 51 := by kernel_rfl
@[go_sem] theorem tel25 : telem Try.prog 25 = none := by kernel_rfl
@[go_sem] theorem tar25 : tarr Try.prog 25 = none := by kernel_rfl
@[go_sem] theorem tes25 : esz Try.prog 25 = none := by kernel_rfl
@[go_sem] theorem tel26 : telem Try.prog 26 = some 55 := by kernel_rfl
@[go_sem] theorem tar26 : tarr Try.prog 26 = none := by kernel_rfl
@[go_sem] theorem tes26 : esz Try.prog 26 = some 2 := by kernel_rfl
@[go_sem] theorem tel27 : telem Try.prog 27 = some 55 := by kernel_rfl
@[go_sem] theorem tar27 : tarr Try.prog 27 = none := by kernel_rfl
@[go_sem] theorem tes27 : esz Try.prog 27 = some 2 := by kernel_rfl
@[go_sem] theorem tel32 : telem Try.prog 32 = some 22 := by kernel_rfl
@[go_sem] theorem tar32 : tarr Try.prog 32 = none := by kernel_rfl
@[go_sem] theorem tes32 : esz Try.prog 32 = some 1 := by kernel_rfl
@[go_sem] theorem tel33 : telem Try.prog 33 = some 125 := by kernel_rfl
@[go_sem] theorem tar33 : tarr Try.prog 33 = none := by kernel_rfl
@[go_sem] theorem tes33 : esz Try.prog 33 = some 6 := by kernel_rfl
@[go_sem] theorem tel34 : telem Try.prog 34 = none := by kernel_rfl
@[go_sem] theorem tar34 : tarr Try.prog 34 = some (16, 22) := by kernel_rfl
@[go_sem] theorem tes34 : esz Try.prog 34 = none := by kernel_rfl
@[go_sem] theorem tel36 : telem Try.prog 36 = none := by kernel_rfl
@[go_sem] theorem tar36 : tarr Try.prog 36 = none := by kernel_rfl
@[go_sem] theorem tes36 : esz Try.prog 36 = none := by kernel_rfl
@[go_sem] theorem tel38 : telem Try.prog 38 = none := by kernel_rfl
@[go_sem] theorem tar38 : tarr Try.prog 38 = none := by kernel_rfl
@[go_sem] theorem tes38 : esz Try.prog 38 = none := by kernel_rfl
@[go_sem] theorem tel40 : telem Try.prog 40 = none := by kernel_rfl
@[go_sem] theorem tar40 : tarr Try.prog 40 = none := by kernel_rfl
@[go_sem] theorem tes40 : esz Try.prog 40 = none := by kernel_rfl
@[go_sem] theorem tel41 : telem Try.prog 41 = none := by kernel_rfl
@[go_sem] theorem tar41 : tarr Try.prog 41 = some (4, 27) := by kernel_rfl
@[go_sem] theorem tes41 : esz Try.prog 41 = none := by kernel_rfl
@[go_sem] theorem tel43 : telem Try.prog 43 = none := by kernel_rfl
@[go_sem] theorem tar43 : tarr Try.prog 43 = none := by kernel_rfl
@[go_sem] theorem tes43 : esz Try.prog 43 = none := by kernel_rfl
@[go_sem] theorem tel45 : telem Try.prog 45 = none := by kernel_rfl
@[go_sem] theorem tar45 : tarr Try.prog 45 = none := by kernel_rfl
@[go_sem] theorem tes45 : esz Try.prog 45 = none := by kernel_rfl
@[go_sem] theorem tel47 : telem Try.prog 47 = none := by kernel_rfl
@[go_sem] theorem tar47 : tarr Try.prog 47 = none := by kernel_rfl
@[go_sem] theorem tes47 : esz Try.prog 47 = none := by kernel_rfl
@[go_sem] theorem tel55 : telem Try.prog 55 = none := by kernel_rfl
@[go_sem] theorem tar55 : tarr Try.prog 55 = none := by kernel_rfl
@[go_sem] theorem tes55 : esz Try.prog 55 = none := by kernel_rfl
@[go_sem] theorem tel57 : telem Try.prog 57 = none := by kernel_rfl
@[go_sem] theorem tar57 : tarr Try.prog 57 = none := by kernel_rfl
@[go_sem] theorem tes57 : esz Try.prog 57 = none := by kernel_rfl
@[go_sem] theorem tel65 : telem Try.prog 65 = none := by kernel_rfl
@[go_sem] theorem tar65 : tarr Try.prog 65 = none := by kernel_rfl
@[go_sem] theorem tes65 : esz Try.prog 65 = none := by kernel_rfl
@[go_sem] theorem tel76 : telem Try.prog 76 = none := by kernel_rfl
@[go_sem] theorem tar76 : tarr Try.prog 76 = none := by kernel_rfl
@[go_sem] theorem tes76 : esz Try.prog 76 = none := by kernel_rfl
@[go_sem] theorem tel81 : telem Try.prog 81 = none := by kernel_rfl
@[go_sem] theorem tar81 : tarr Try.prog 81 = none := by kernel_rfl
@[go_sem] theorem tes81 : esz Try.prog 81 = none := by kernel_rfl
@[go_sem] theorem tel83 : telem Try.prog 83 = none := by kernel_rfl
@[go_sem] theorem tar83 : tarr Try.prog 83 = none := by kernel_rfl
@[go_sem] theorem tes83 : esz Try.prog 83 = none := by kernel_rfl
@[go_sem] theorem tel95 : telem Try.prog 95 = none := by kernel_rfl
@[go_sem] theorem tar95 : tarr Try.prog 95 = none := by kernel_rfl
@[go_sem] theorem tes95 : esz Try.prog 95 = none := by kernel_rfl
@[go_sem] theorem tel98 : telem Try.prog 98 = none := by kernel_rfl
@[go_sem] theorem tar98 : tarr Try.prog 98 = none := by kernel_rfl
@[go_sem] theorem tes98 : esz Try.prog 98 = none := by kernel_rfl
@[go_sem] theorem tel101 : telem Try.prog 101 = none := by kernel_rfl
@[go_sem] theorem tar101 : tarr Try.prog 101 = none := by kernel_rfl
@[go_sem] theorem tes101 : esz Try.prog 101 = none := by kernel_rfl
@[go_sem] theorem tel104 : telem Try.prog 104 = none := by kernel_rfl
@[go_sem] theorem tar104 : tarr Try.prog 104 = none := by kernel_rfl
@[go_sem] theorem tes104 : esz Try.prog 104 = none := by kernel_rfl
@[go_sem] theorem tel109 : telem Try.prog 109 = none := by kernel_rfl
@[go_sem] theorem tar109 : tarr Try.prog 109 = none := by kernel_rfl
@[go_sem] theorem tes109 : esz Try.prog 109 = none := by kernel_rfl
@[go_sem] theorem tel111 : telem Try.prog 111 = none := by kernel_rfl
@[go_sem] theorem tar111 : tarr Try.prog 111 = none := by kernel_rfl
@[go_sem] theorem tes111 : esz Try.prog 111 = none := by kernel_rfl
@[go_sem] theorem tel114 : telem Try.prog 114 = none := by kernel_rfl
@[go_sem] theorem tar114 : tarr Try.prog 114 = none := by kernel_rfl
@[go_sem] theorem tes114 : esz Try.prog 114 = none := by kernel_rfl
@[go_sem] theorem tel125 : telem Try.prog 125 = none := by kernel_rfl
@[go_sem] theorem tar125 : tarr Try.prog 125 = none := by kernel_rfl
@[go_sem] theorem tes125 : esz Try.prog 125 = none := by kernel_rfl
@[go_sem] theorem tel127 : telem Try.prog 127 = none := by kernel_rfl
@[go_sem] theorem tar127 : tarr Try.prog 127 = none := by kernel_rfl
@[go_sem] theorem tes127 : esz Try.prog 127 = none := by kernel_rfl
@[go_sem] theorem tel132 : telem Try.prog 132 = none := by kernel_rfl
@[go_sem] theorem tar132 : tarr Try.prog 132 = none := by kernel_rfl
@[go_sem] theorem tes132 : esz Try.prog 132 = none := by kernel_rfl
@[go_sem] theorem tel135 : telem Try.prog 135 = none := by kernel_rfl
@[go_sem] theorem tar135 : tarr Try.prog 135 = none := by kernel_rfl
@[go_sem] theorem tes135 : esz Try.prog 135 = none := by kernel_rfl
@[go_sem] theorem tel139 : telem Try.prog 139 = none := by kernel_rfl
@[go_sem] theorem tar139 : tarr Try.prog 139 = none := by kernel_rfl
@[go_sem] theorem tes139 : esz Try.prog 139 = none := by kernel_rfl
@[go_sem] theorem tel153 : telem Try.prog 153 = none := by kernel_rfl
@[go_sem] theorem tar153 : tarr Try.prog 153 = none := by kernel_rfl
@[go_sem] theorem tes153 : esz Try.prog 153 = none := by kernel_rfl
@[go_sem] theorem tel160 : telem Try.prog 160 = none := by kernel_rfl
@[go_sem] theorem tar160 : tarr Try.prog 160 = none := by kernel_rfl
@[go_sem] theorem tes160 : esz Try.prog 160 = none := by kernel_rfl
@[go_sem] theorem tel167 : telem Try.prog 167 = none := by kernel_rfl
@[go_sem] theorem tar167 : tarr Try.prog 167 = none := by kernel_rfl
@[go_sem] theorem tes167 : esz Try.prog 167 = none := by kernel_rfl
@[go_sem] theorem tel171 : telem Try.prog 171 = none := by kernel_rfl
@[go_sem] theorem tar171 : tarr Try.prog 171 = none := by kernel_rfl
@[go_sem] theorem tes171 : esz Try.prog 171 = none := by kernel_rfl
@[go_sem] theorem tze3 : tzero Try.prog 3 = .d (.v (.int .i64 0)) := by kernel_rfl
@[go_sem] theorem tze4 : tzero Try.prog 4 = .d (.v (.bool false)) := by kernel_rfl
@[go_sem] theorem tze22 : tzero Try.prog 22 = .d (.v (.int .u64 0)) := by kernel_rfl
@[go_sem] theorem tze23 : tzero Try.prog 23 = .nil := by kernel_rfl
@[go_sem] theorem tze25 : tzero Try.prog 25 = .d XWorld.zero.enc := by kernel_rfl
@[go_sem] theorem tze27 : tzero Try.prog 27 = .nil := by kernel_rfl
@[go_sem] theorem tze38 : tzero Try.prog 38 = .d XWait.zero.enc := by kernel_rfl
@[go_sem] theorem tze40 : tzero Try.prog 40 = .d XSpan.zero.enc := by kernel_rfl
@[go_sem] theorem tze43 : tzero Try.prog 43 = .d XThread.zero.enc := by kernel_rfl
@[go_sem] theorem tze45 : tzero Try.prog 45 = .d XGate.zero.enc := by kernel_rfl
@[go_sem] theorem tze47 : tzero Try.prog 47 = .d XObject.zero.enc := by kernel_rfl
@[go_sem] theorem tze55 : tzero Try.prog 55 = .d XPair.zero.enc := by kernel_rfl
@[go_sem] theorem tze76 : tzero Try.prog 76 = .d (.v (.pointer none)) := by kernel_rfl
@[go_sem] theorem tze83 : tzero Try.prog 83 = .d (.agg [.v (.int .i64 0), .v (.int .u64 0), .v (.int .u64 0), .sl [], .v (.map none), .sl [], .sl []]) := by kernel_rfl
@[go_sem] theorem tze95 : tzero Try.prog 95 = .d (.agg [.v (.int .i64 0), .v (.int .u64 0), .v (.int .u64 0), .sl [], .sl []]) := by kernel_rfl
@[go_sem] theorem tze104 : tzero Try.prog 104 = .d XLabelLevels.zero.enc := by kernel_rfl
@[go_sem] theorem tze111 : tzero Try.prog 111 = .d (.agg [.sl [], .v .nilFunc]) := by kernel_rfl
@[go_sem] theorem tze125 : tzero Try.prog 125 = .d (.agg [.v (.int .i64 0), .v (.int .i64 0), .v (.int .u64 0), .v (.int .u64 0), .v (.int .i64 0), .v (.bool false)]) := by kernel_rfl
@[go_sem] theorem tze132 : tzero Try.prog 132 = .d (.v .nilFunc) := by kernel_rfl
@[go_sem] theorem tze167 : tzero Try.prog 167 = .d (.v (.int .u64 0)) := by kernel_rfl
@[go_sem] theorem tbu25 : tbuild Try.prog 25 = true := by kernel_rfl
@[go_sem] theorem tbu38 : tbuild Try.prog 38 = true := by kernel_rfl
@[go_sem] theorem tbu47 : tbuild Try.prog 47 = true := by kernel_rfl
@[go_sem] theorem tbu55 : tbuild Try.prog 55 = true := by kernel_rfl
@[go_sem] theorem tbu83 : tbuild Try.prog 83 = true := by kernel_rfl
@[go_sem] theorem tbu95 : tbuild Try.prog 95 = true := by kernel_rfl
@[go_sem] theorem tbu104 : tbuild Try.prog 104 = true := by kernel_rfl
@[go_sem] theorem tbu111 : tbuild Try.prog 111 = true := by kernel_rfl
@[go_sem] theorem tpl25_2 : tplace Try.prog 25 2 = some (2, 1) := by kernel_rfl
@[go_sem] theorem tpl25_3 : tplace Try.prog 25 3 = some (3, 1) := by kernel_rfl
@[go_sem] theorem tpl47_0 : tplace Try.prog 47 0 = some (0, 1) := by kernel_rfl
@[go_sem] theorem tpl47_1 : tplace Try.prog 47 1 = some (1, 1) := by kernel_rfl
@[go_sem] theorem tpl47_2 : tplace Try.prog 47 2 = some (2, 1) := by kernel_rfl
@[go_sem] theorem tpl47_3 : tplace Try.prog 47 3 = some (3, 1) := by kernel_rfl
@[go_sem] theorem tpl47_4 : tplace Try.prog 47 4 = some (4, 1) := by kernel_rfl
@[go_sem] theorem tpl47_5 : tplace Try.prog 47 5 = some (5, 1) := by kernel_rfl
@[go_sem] theorem tpl47_6 : tplace Try.prog 47 6 = some (6, 1) := by kernel_rfl
@[go_sem] theorem tpl55_0 : tplace Try.prog 55 0 = some (0, 1) := by kernel_rfl
@[go_sem] theorem tpl55_1 : tplace Try.prog 55 1 = some (1, 1) := by kernel_rfl
@[go_sem] theorem tpl83_0 : tplace Try.prog 83 0 = some (0, 4) := by kernel_rfl
@[go_sem] theorem tpl83_1 : tplace Try.prog 83 1 = some (4, 1) := by kernel_rfl
@[go_sem] theorem tpl95_0 : tplace Try.prog 95 0 = some (0, 4) := by kernel_rfl
@[go_sem] theorem tpl95_1 : tplace Try.prog 95 1 = some (4, 1) := by kernel_rfl
@[go_sem] theorem tpl104_0 : tplace Try.prog 104 0 = some (0, 1) := by kernel_rfl
@[go_sem] theorem tpl104_1 : tplace Try.prog 104 1 = some (1, 1) := by kernel_rfl
@[go_sem] theorem tpl111_0 : tplace Try.prog 111 0 = some (0, 1) := by kernel_rfl
@[go_sem] theorem tpl111_1 : tplace Try.prog 111 1 = some (1, 1) := by kernel_rfl
@[go_sem] theorem tun3 : Try.prog.underlying 3 = some (.int .i64) := by kernel_rfl
@[go_sem] theorem tun4 : Try.prog.underlying 4 = some .bool := by kernel_rfl
@[go_sem] theorem tun5 : Try.prog.underlying 5 = some (.int .u8) := by kernel_rfl
@[go_sem] theorem tun22 : Try.prog.underlying 22 = some (.int .u64) := by kernel_rfl
@[go_sem] theorem tun57 : Try.prog.underlying 57 = some (.int .i64) := by kernel_rfl
@[go_sem] theorem tun114 : Try.prog.underlying 114 = some (.int .u64) := by kernel_rfl
@[go_sem] theorem tun153 : Try.prog.underlying 153 = some (.int .i64) := by kernel_rfl
@[go_sem] theorem tun160 : Try.prog.underlying 160 = some (.int .u32) := by kernel_rfl
@[go_sem] theorem tun167 : Try.prog.underlying 167 = some (.int .u64) := by kernel_rfl
@[go_sem] theorem tmk81 : tmapk Try.prog 81 = some .u64 := by kernel_rfl
@[go_sem] theorem tme81 : tmape Try.prog 81 = some 3 := by kernel_rfl
@[go_sem] theorem tmk127 : tmapk Try.prog 127 = some .u64 := by kernel_rfl
@[go_sem] theorem tme127 : tmape Try.prog 127 = some 4 := by kernel_rfl
@[go_sem] theorem tfk34 : flatKinds Try.prog 34 = some [false, false, false, false, false, false, false, false, false, false, false, false, false, false, false, false] := by kernel_rfl
@[go_sem] theorem tfk36 : flatKinds Try.prog 36 = some [false, false] := by kernel_rfl
@[go_sem] theorem tfk38 : flatKinds Try.prog 38 = some [false, false, false, false, true] := by kernel_rfl
@[go_sem] theorem tfk40 : flatKinds Try.prog 40 = some [false, false] := by kernel_rfl
@[go_sem] theorem tfk55 : flatKinds Try.prog 55 = some [false, false] := by kernel_rfl
@[go_sem] theorem tfk125 : flatKinds Try.prog 125 = some [false, false, false, false, false, true] := by kernel_rfl
@[go_sem] theorem tca2 : callable Try.prog 2 = true := by kernel_rfl
@[go_sem] theorem tca3 : callable Try.prog 3 = true := by kernel_rfl
@[go_sem] theorem tca4 : callable Try.prog 4 = true := by kernel_rfl
@[go_sem] theorem tca5 : callable Try.prog 5 = true := by kernel_rfl
@[go_sem] theorem tca6 : callable Try.prog 6 = true := by kernel_rfl
@[go_sem] theorem tca7 : callable Try.prog 7 = true := by kernel_rfl
@[go_sem] theorem tca8 : callable Try.prog 8 = true := by kernel_rfl
@[go_sem] theorem tca9 : callable Try.prog 9 = true := by kernel_rfl
@[go_sem] theorem tca10 : callable Try.prog 10 = true := by kernel_rfl
@[go_sem] theorem tca11 : callable Try.prog 11 = true := by kernel_rfl
@[go_sem] theorem tca12 : callable Try.prog 12 = true := by kernel_rfl
@[go_sem] theorem tca13 : callable Try.prog 13 = true := by kernel_rfl
@[go_sem] theorem tca14 : callable Try.prog 14 = true := by kernel_rfl
@[go_sem] theorem tca15 : callable Try.prog 15 = true := by kernel_rfl
@[go_sem] theorem tca16 : callable Try.prog 16 = true := by kernel_rfl
@[go_sem] theorem tca17 : callable Try.prog 17 = true := by kernel_rfl
@[go_sem] theorem tca18 : callable Try.prog 18 = true := by kernel_rfl
@[go_sem] theorem tca19 : callable Try.prog 19 = true := by kernel_rfl
@[go_sem] theorem tca20 : callable Try.prog 20 = true := by kernel_rfl
@[go_sem] theorem tca21 : callable Try.prog 21 = true := by kernel_rfl
@[go_sem] theorem tca22 : callable Try.prog 22 = true := by kernel_rfl
@[go_sem] theorem tca23 : callable Try.prog 23 = true := by kernel_rfl
@[go_sem] theorem tca24 : callable Try.prog 24 = true := by kernel_rfl
@[go_sem] theorem tca25 : callable Try.prog 25 = true := by kernel_rfl
@[go_sem] theorem tca26 : callable Try.prog 26 = true := by kernel_rfl
@[go_sem] theorem tca27 : callable Try.prog 27 = true := by kernel_rfl
@[go_sem] theorem tca28 : callable Try.prog 28 = true := by kernel_rfl
@[go_sem] theorem tca29 : callable Try.prog 29 = true := by kernel_rfl
@[go_sem] theorem tca30 : callable Try.prog 30 = true := by kernel_rfl
@[go_sem] theorem tca31 : callable Try.prog 31 = true := by kernel_rfl
@[go_sem] theorem tca32 : callable Try.prog 32 = true := by kernel_rfl
@[go_sem] theorem tca33 : callable Try.prog 33 = true := by kernel_rfl
@[go_sem] theorem tca34 : callable Try.prog 34 = true := by kernel_rfl
@[go_sem] theorem tca35 : callable Try.prog 35 = true := by kernel_rfl
@[go_sem] theorem tca36 : callable Try.prog 36 = true := by kernel_rfl
@[go_sem] theorem tca37 : callable Try.prog 37 = true := by kernel_rfl
@[go_sem] theorem tca38 : callable Try.prog 38 = true := by kernel_rfl
@[go_sem] theorem tca39 : callable Try.prog 39 = true := by kernel_rfl
@[go_sem] theorem tca40 : callable Try.prog 40 = true := by kernel_rfl
@[go_sem] theorem tca41 : callable Try.prog 41 = true := by kernel_rfl
@[go_sem] theorem tca42 : callable Try.prog 42 = true := by kernel_rfl
@[go_sem] theorem tca43 : callable Try.prog 43 = true := by kernel_rfl
@[go_sem] theorem tca44 : callable Try.prog 44 = true := by kernel_rfl
@[go_sem] theorem tca45 : callable Try.prog 45 = true := by kernel_rfl
@[go_sem] theorem tca46 : callable Try.prog 46 = true := by kernel_rfl
@[go_sem] theorem tca47 : callable Try.prog 47 = true := by kernel_rfl
@[go_sem] theorem tca48 : callable Try.prog 48 = true := by kernel_rfl
@[go_sem] theorem tca49 : callable Try.prog 49 = true := by kernel_rfl
@[go_sem] theorem tca50 : callable Try.prog 50 = true := by kernel_rfl
@[go_sem] theorem tca51 : callable Try.prog 51 = true := by kernel_rfl
@[go_sem] theorem tca52 : callable Try.prog 52 = true := by kernel_rfl
@[go_sem] theorem tca53 : callable Try.prog 53 = true := by kernel_rfl
@[go_sem] theorem tca54 : callable Try.prog 54 = true := by kernel_rfl
@[go_sem] theorem tca55 : callable Try.prog 55 = true := by kernel_rfl
@[go_sem] theorem tca56 : callable Try.prog 56 = true := by kernel_rfl
@[go_sem] theorem tca57 : callable Try.prog 57 = true := by kernel_rfl
@[go_sem] theorem tca58 : callable Try.prog 58 = true := by kernel_rfl
@[go_sem] theorem tca59 : callable Try.prog 59 = true := by kernel_rfl
@[go_sem] theorem tca60 : callable Try.prog 60 = true := by kernel_rfl
@[go_sem] theorem tca61 : callable Try.prog 61 = true := by kernel_rfl
@[go_sem] theorem tca62 : callable Try.prog 62 = true := by kernel_rfl
@[go_sem] theorem tca63 : callable Try.prog 63 = true := by kernel_rfl
@[go_sem] theorem tca64 : callable Try.prog 64 = true := by kernel_rfl
@[go_sem] theorem tca65 : callable Try.prog 65 = true := by kernel_rfl
@[go_sem] theorem tca66 : callable Try.prog 66 = true := by kernel_rfl
@[go_sem] theorem tca67 : callable Try.prog 67 = true := by kernel_rfl
@[go_sem] theorem tca68 : callable Try.prog 68 = true := by kernel_rfl
@[go_sem] theorem tca69 : callable Try.prog 69 = true := by kernel_rfl
@[go_sem] theorem tca70 : callable Try.prog 70 = true := by kernel_rfl
@[go_sem] theorem tca71 : callable Try.prog 71 = true := by kernel_rfl
@[go_sem] theorem tca72 : callable Try.prog 72 = true := by kernel_rfl
@[go_sem] theorem tca73 : callable Try.prog 73 = true := by kernel_rfl
@[go_sem] theorem tca74 : callable Try.prog 74 = true := by kernel_rfl
@[go_sem] theorem tca75 : callable Try.prog 75 = true := by kernel_rfl
@[go_sem] theorem tca76 : callable Try.prog 76 = true := by kernel_rfl
@[go_sem] theorem tca77 : callable Try.prog 77 = true := by kernel_rfl
@[go_sem] theorem tca78 : callable Try.prog 78 = true := by kernel_rfl
@[go_sem] theorem tca79 : callable Try.prog 79 = true := by kernel_rfl
@[go_sem] theorem tca80 : callable Try.prog 80 = true := by kernel_rfl
@[go_sem] theorem tca81 : callable Try.prog 81 = true := by kernel_rfl
@[go_sem] theorem tca82 : callable Try.prog 82 = true := by kernel_rfl
@[go_sem] theorem tca83 : callable Try.prog 83 = true := by kernel_rfl
@[go_sem] theorem tca84 : callable Try.prog 84 = true := by kernel_rfl
@[go_sem] theorem tca85 : callable Try.prog 85 = true := by kernel_rfl
@[go_sem] theorem tca86 : callable Try.prog 86 = true := by kernel_rfl
@[go_sem] theorem tca87 : callable Try.prog 87 = true := by kernel_rfl
@[go_sem] theorem tca88 : callable Try.prog 88 = true := by kernel_rfl
@[go_sem] theorem tca89 : callable Try.prog 89 = true := by kernel_rfl
@[go_sem] theorem tca90 : callable Try.prog 90 = true := by kernel_rfl
@[go_sem] theorem tca91 : callable Try.prog 91 = true := by kernel_rfl
@[go_sem] theorem tca92 : callable Try.prog 92 = true := by kernel_rfl
@[go_sem] theorem tca93 : callable Try.prog 93 = true := by kernel_rfl
@[go_sem] theorem tca94 : callable Try.prog 94 = true := by kernel_rfl
@[go_sem] theorem tca95 : callable Try.prog 95 = true := by kernel_rfl
@[go_sem] theorem tca96 : callable Try.prog 96 = true := by kernel_rfl
@[go_sem] theorem tca97 : callable Try.prog 97 = true := by kernel_rfl
@[go_sem] theorem tca98 : callable Try.prog 98 = true := by kernel_rfl
@[go_sem] theorem tca99 : callable Try.prog 99 = true := by kernel_rfl
@[go_sem] theorem tca100 : callable Try.prog 100 = true := by kernel_rfl
@[go_sem] theorem tca101 : callable Try.prog 101 = true := by kernel_rfl
@[go_sem] theorem tca102 : callable Try.prog 102 = true := by kernel_rfl
@[go_sem] theorem tca103 : callable Try.prog 103 = true := by kernel_rfl
@[go_sem] theorem tca104 : callable Try.prog 104 = true := by kernel_rfl
@[go_sem] theorem tca105 : callable Try.prog 105 = true := by kernel_rfl
@[go_sem] theorem tca106 : callable Try.prog 106 = true := by kernel_rfl
@[go_sem] theorem tca107 : callable Try.prog 107 = true := by kernel_rfl
@[go_sem] theorem tca109 : callable Try.prog 109 = true := by kernel_rfl
@[go_sem] theorem tca110 : callable Try.prog 110 = true := by kernel_rfl
@[go_sem] theorem tca111 : callable Try.prog 111 = true := by kernel_rfl
@[go_sem] theorem tca112 : callable Try.prog 112 = true := by kernel_rfl
@[go_sem] theorem tca113 : callable Try.prog 113 = true := by kernel_rfl
@[go_sem] theorem tca114 : callable Try.prog 114 = true := by kernel_rfl
@[go_sem] theorem tca115 : callable Try.prog 115 = true := by kernel_rfl
@[go_sem] theorem tca116 : callable Try.prog 116 = true := by kernel_rfl
@[go_sem] theorem tca117 : callable Try.prog 117 = true := by kernel_rfl
@[go_sem] theorem tca118 : callable Try.prog 118 = true := by kernel_rfl
@[go_sem] theorem tca119 : callable Try.prog 119 = true := by kernel_rfl
@[go_sem] theorem tca120 : callable Try.prog 120 = true := by kernel_rfl
@[go_sem] theorem tca121 : callable Try.prog 121 = true := by kernel_rfl
@[go_sem] theorem tca122 : callable Try.prog 122 = true := by kernel_rfl
@[go_sem] theorem tca123 : callable Try.prog 123 = true := by kernel_rfl
@[go_sem] theorem tca124 : callable Try.prog 124 = true := by kernel_rfl
@[go_sem] theorem tca125 : callable Try.prog 125 = true := by kernel_rfl
@[go_sem] theorem tca126 : callable Try.prog 126 = true := by kernel_rfl
@[go_sem] theorem tca127 : callable Try.prog 127 = true := by kernel_rfl
@[go_sem] theorem tca128 : callable Try.prog 128 = true := by kernel_rfl
@[go_sem] theorem tca129 : callable Try.prog 129 = true := by kernel_rfl
@[go_sem] theorem tca130 : callable Try.prog 130 = true := by kernel_rfl
@[go_sem] theorem tca131 : callable Try.prog 131 = true := by kernel_rfl
@[go_sem] theorem tca133 : callable Try.prog 133 = true := by kernel_rfl
@[go_sem] theorem tca134 : callable Try.prog 134 = true := by kernel_rfl
@[go_sem] theorem tca135 : callable Try.prog 135 = true := by kernel_rfl
@[go_sem] theorem tca136 : callable Try.prog 136 = true := by kernel_rfl
@[go_sem] theorem tca137 : callable Try.prog 137 = true := by kernel_rfl
@[go_sem] theorem tca138 : callable Try.prog 138 = true := by kernel_rfl
@[go_sem] theorem tca139 : callable Try.prog 139 = true := by kernel_rfl
@[go_sem] theorem tca140 : callable Try.prog 140 = true := by kernel_rfl
@[go_sem] theorem tca141 : callable Try.prog 141 = true := by kernel_rfl
@[go_sem] theorem tca142 : callable Try.prog 142 = true := by kernel_rfl
@[go_sem] theorem tca143 : callable Try.prog 143 = true := by kernel_rfl
@[go_sem] theorem tca144 : callable Try.prog 144 = true := by kernel_rfl
@[go_sem] theorem tca145 : callable Try.prog 145 = true := by kernel_rfl
@[go_sem] theorem tca146 : callable Try.prog 146 = true := by kernel_rfl
@[go_sem] theorem tca147 : callable Try.prog 147 = true := by kernel_rfl
@[go_sem] theorem tca148 : callable Try.prog 148 = true := by kernel_rfl
@[go_sem] theorem tca149 : callable Try.prog 149 = true := by kernel_rfl
@[go_sem] theorem tca150 : callable Try.prog 150 = true := by kernel_rfl
@[go_sem] theorem tca151 : callable Try.prog 151 = true := by kernel_rfl
@[go_sem] theorem tca152 : callable Try.prog 152 = true := by kernel_rfl
@[go_sem] theorem tca153 : callable Try.prog 153 = true := by kernel_rfl
@[go_sem] theorem tca154 : callable Try.prog 154 = true := by kernel_rfl
@[go_sem] theorem tca155 : callable Try.prog 155 = true := by kernel_rfl
@[go_sem] theorem tca156 : callable Try.prog 156 = true := by kernel_rfl
@[go_sem] theorem tca157 : callable Try.prog 157 = true := by kernel_rfl
@[go_sem] theorem tca158 : callable Try.prog 158 = true := by kernel_rfl
end Go.Proofs.Ytijkiddfobojaaa
