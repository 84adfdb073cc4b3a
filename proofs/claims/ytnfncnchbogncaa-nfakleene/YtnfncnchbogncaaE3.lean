/- Part of the proof by the abstract machine: no claim of its own. -/
import Derived.Test.YtnfncnchbogncaaE1
import Derived.Test.YtnfncnchbogncaaJ0
import Derived.KernelRfl
set_option linter.unusedSimpArgs false
set_option linter.unusedVariables false
set_option linter.unnecessarySimpa false
set_option linter.unusedSectionVars false
set_option maxRecDepth 1000000
set_option linter.unusedVariables false
namespace Go.Amb
open Go.Proofs
theorem tk1 : ti1.Ok Try.prog 1 := TI.Ok.of (by kernel_rfl) (by kernel_rfl) (by kernel_rfl)
theorem tk2 : ti2.Ok Try.prog 2 := TI.Ok.of (by kernel_rfl) (by kernel_rfl) (by kernel_rfl)
theorem tk3 : ti3.Ok Try.prog 3 := TI.Ok.of (by kernel_rfl) (by kernel_rfl) (by kernel_rfl)
theorem tk4 : ti4.Ok Try.prog 4 := TI.Ok.of (by kernel_rfl) (by kernel_rfl) (by kernel_rfl)
theorem tk5 : ti5.Ok Try.prog 5 := TI.Ok.of (by kernel_rfl) (by kernel_rfl) (by kernel_rfl)
theorem tk6 : ti6.Ok Try.prog 6 := TI.Ok.of (by kernel_rfl) (by kernel_rfl) (by kernel_rfl)
theorem tk7 : ti7.Ok Try.prog 7 := TI.Ok.of (by kernel_rfl) (by kernel_rfl) (by kernel_rfl)
theorem tk8 : ti8.Ok Try.prog 8 := TI.Ok.of (by kernel_rfl) (by kernel_rfl) (by kernel_rfl)
theorem tk9 : ti9.Ok Try.prog 9 := TI.Ok.of (by kernel_rfl) (by kernel_rfl) (by kernel_rfl)
theorem tk10 : ti10.Ok Try.prog 10 := TI.Ok.of (by kernel_rfl) (by kernel_rfl) (by kernel_rfl)
theorem tk11 : ti11.Ok Try.prog 11 := TI.Ok.of (by kernel_rfl) (by kernel_rfl) (by kernel_rfl)
theorem tk12 : ti12.Ok Try.prog 12 := TI.Ok.of (by kernel_rfl) (by kernel_rfl) (by kernel_rfl)
theorem tk13 : ti13.Ok Try.prog 13 := TI.Ok.of (by kernel_rfl) (by kernel_rfl) (by kernel_rfl)
theorem tk14 : ti14.Ok Try.prog 14 := TI.Ok.of (by kernel_rfl) (by kernel_rfl) (by kernel_rfl)
theorem tk15 : ti15.Ok Try.prog 15 := TI.Ok.of (by kernel_rfl) (by kernel_rfl) (by kernel_rfl)
theorem tk16 : ti16.Ok Try.prog 16 := TI.Ok.of (by kernel_rfl) (by kernel_rfl) (by kernel_rfl)
theorem tk17 : ti17.Ok Try.prog 17 := TI.Ok.of (by kernel_rfl) (by kernel_rfl) (by kernel_rfl)
theorem tk18 : ti18.Ok Try.prog 18 := TI.Ok.of (by kernel_rfl) (by kernel_rfl) (by kernel_rfl)
theorem tk19 : ti19.Ok Try.prog 19 := TI.Ok.of (by kernel_rfl) (by kernel_rfl) (by kernel_rfl)
theorem tk20 : ti20.Ok Try.prog 20 := TI.Ok.of (by kernel_rfl) (by kernel_rfl) (by kernel_rfl)
theorem tk21 : ti21.Ok Try.prog 21 := TI.Ok.of (by kernel_rfl) (by kernel_rfl) (by kernel_rfl)
theorem tk22 : ti22.Ok Try.prog 22 := TI.Ok.of (by kernel_rfl) (by kernel_rfl) (by kernel_rfl)
theorem tk23 : ti23.Ok Try.prog 23 := TI.Ok.of (by kernel_rfl) (by kernel_rfl) (by kernel_rfl)
theorem tk24 : ti24.Ok Try.prog 24 := TI.Ok.of (by kernel_rfl) (by kernel_rfl) (by kernel_rfl)
theorem tk25 : ti25.Ok Try.prog 25 := TI.Ok.of (by kernel_rfl) (by kernel_rfl) (by kernel_rfl)
theorem tk26 : ti26.Ok Try.prog 26 := TI.Ok.of (by kernel_rfl) (by kernel_rfl) (by kernel_rfl)
theorem tk27 : ti27.Ok Try.prog 27 := TI.Ok.of (by kernel_rfl) (by kernel_rfl) (by kernel_rfl)
theorem tk28 : ti28.Ok Try.prog 28 := TI.Ok.of (by kernel_rfl) (by kernel_rfl) (by kernel_rfl)
theorem tk29 : ti29.Ok Try.prog 29 := TI.Ok.of (by kernel_rfl) (by kernel_rfl) (by kernel_rfl)
theorem tk30 : ti30.Ok Try.prog 30 := TI.Ok.of (by kernel_rfl) (by kernel_rfl) (by kernel_rfl)
theorem tk31 : ti31.Ok Try.prog 31 := TI.Ok.of (by kernel_rfl) (by kernel_rfl) (by kernel_rfl)
theorem tk32 : ti32.Ok Try.prog 32 := TI.Ok.of (by kernel_rfl) (by kernel_rfl) (by kernel_rfl)
theorem tk33 : ti33.Ok Try.prog 33 := TI.Ok.of (by kernel_rfl) (by kernel_rfl) (by kernel_rfl)
theorem tk34 : ti34.Ok Try.prog 34 := TI.Ok.of (by kernel_rfl) (by kernel_rfl) (by kernel_rfl)
theorem tk35 : ti35.Ok Try.prog 35 := TI.Ok.of (by kernel_rfl) (by kernel_rfl) (by kernel_rfl)
theorem tk36 : ti36.Ok Try.prog 36 := TI.Ok.of (by kernel_rfl) (by kernel_rfl) (by kernel_rfl)
theorem tk37 : ti37.Ok Try.prog 37 := TI.Ok.of (by kernel_rfl) (by kernel_rfl) (by kernel_rfl)
theorem tk39 : ti39.Ok Try.prog 39 := TI.Ok.of (by kernel_rfl) (by kernel_rfl) (by kernel_rfl)
theorem tk41 : ti41.Ok Try.prog 41 := TI.Ok.of (by kernel_rfl) (by kernel_rfl) (by kernel_rfl)
theorem tk42 : ti42.Ok Try.prog 42 := TI.Ok.of (by kernel_rfl) (by kernel_rfl) (by kernel_rfl)
theorem tk43 : ti43.Ok Try.prog 43 := TI.Ok.of (by kernel_rfl) (by kernel_rfl) (by kernel_rfl)
theorem tk44 : ti44.Ok Try.prog 44 := TI.Ok.of (by kernel_rfl) (by kernel_rfl) (by kernel_rfl)
theorem tk46 : ti46.Ok Try.prog 46 := TI.Ok.of (by kernel_rfl) (by kernel_rfl) (by kernel_rfl)
theorem tk48 : ti48.Ok Try.prog 48 := TI.Ok.of (by kernel_rfl) (by kernel_rfl) (by kernel_rfl)
theorem tk49 : ti49.Ok Try.prog 49 := TI.Ok.of (by kernel_rfl) (by kernel_rfl) (by kernel_rfl)
theorem tk51 : ti51.Ok Try.prog 51 := TI.Ok.of (by kernel_rfl) (by kernel_rfl) (by kernel_rfl)
theorem tk52 : ti52.Ok Try.prog 52 := TI.Ok.of (by kernel_rfl) (by kernel_rfl) (by kernel_rfl)
theorem tk53 : ti53.Ok Try.prog 53 := TI.Ok.of (by kernel_rfl) (by kernel_rfl) (by kernel_rfl)
theorem tk54 : ti54.Ok Try.prog 54 := TI.Ok.of (by kernel_rfl) (by kernel_rfl) (by kernel_rfl)
theorem tk55 : ti55.Ok Try.prog 55 := TI.Ok.of (by kernel_rfl) (by kernel_rfl) (by kernel_rfl)
theorem tk56 : ti56.Ok Try.prog 56 := TI.Ok.of (by kernel_rfl) (by kernel_rfl) (by kernel_rfl)
theorem tk57 : ti57.Ok Try.prog 57 := TI.Ok.of (by kernel_rfl) (by kernel_rfl) (by kernel_rfl)
theorem tk58 : ti58.Ok Try.prog 58 := TI.Ok.of (by kernel_rfl) (by kernel_rfl) (by kernel_rfl)
theorem tk59 : ti59.Ok Try.prog 59 := TI.Ok.of (by kernel_rfl) (by kernel_rfl) (by kernel_rfl)
theorem tk60 : ti60.Ok Try.prog 60 := TI.Ok.of (by kernel_rfl) (by kernel_rfl) (by kernel_rfl)
theorem tk61 : ti61.Ok Try.prog 61 := TI.Ok.of (by kernel_rfl) (by kernel_rfl) (by kernel_rfl)
theorem tk62 : ti62.Ok Try.prog 62 := TI.Ok.of (by kernel_rfl) (by kernel_rfl) (by kernel_rfl)
theorem tk63 : ti63.Ok Try.prog 63 := TI.Ok.of (by kernel_rfl) (by kernel_rfl) (by kernel_rfl)
theorem tk64 : ti64.Ok Try.prog 64 := TI.Ok.of (by kernel_rfl) (by kernel_rfl) (by kernel_rfl)
theorem tk65 : ti65.Ok Try.prog 65 := TI.Ok.of (by kernel_rfl) (by kernel_rfl) (by kernel_rfl)
theorem tk66 : ti66.Ok Try.prog 66 := TI.Ok.of (by kernel_rfl) (by kernel_rfl) (by kernel_rfl)
theorem tk67 : ti67.Ok Try.prog 67 := TI.Ok.of (by kernel_rfl) (by kernel_rfl) (by kernel_rfl)
theorem tk69 : ti69.Ok Try.prog 69 := TI.Ok.of (by kernel_rfl) (by kernel_rfl) (by kernel_rfl)
theorem tk71 : ti71.Ok Try.prog 71 := TI.Ok.of (by kernel_rfl) (by kernel_rfl) (by kernel_rfl)
theorem tk72 : ti72.Ok Try.prog 72 := TI.Ok.of (by kernel_rfl) (by kernel_rfl) (by kernel_rfl)
theorem tk73 : ti73.Ok Try.prog 73 := TI.Ok.of (by kernel_rfl) (by kernel_rfl) (by kernel_rfl)
theorem tk74 : ti74.Ok Try.prog 74 := TI.Ok.of (by kernel_rfl) (by kernel_rfl) (by kernel_rfl)
theorem tk75 : ti75.Ok Try.prog 75 := TI.Ok.of (by kernel_rfl) (by kernel_rfl) (by kernel_rfl)
theorem tk76 : ti76.Ok Try.prog 76 := TI.Ok.of (by kernel_rfl) (by kernel_rfl) (by kernel_rfl)
theorem tk77 : ti77.Ok Try.prog 77 := TI.Ok.of (by kernel_rfl) (by kernel_rfl) (by kernel_rfl)
theorem tk78 : ti78.Ok Try.prog 78 := TI.Ok.of (by kernel_rfl) (by kernel_rfl) (by kernel_rfl)
theorem tk79 : ti79.Ok Try.prog 79 := TI.Ok.of (by kernel_rfl) (by kernel_rfl) (by kernel_rfl)
theorem tk80 : ti80.Ok Try.prog 80 := TI.Ok.of (by kernel_rfl) (by kernel_rfl) (by kernel_rfl)
theorem tk81 : ti81.Ok Try.prog 81 := TI.Ok.of (by kernel_rfl) (by kernel_rfl) (by kernel_rfl)
theorem tk82 : ti82.Ok Try.prog 82 := TI.Ok.of (by kernel_rfl) (by kernel_rfl) (by kernel_rfl)
theorem tk83 : ti83.Ok Try.prog 83 := TI.Ok.of (by kernel_rfl) (by kernel_rfl) (by kernel_rfl)
theorem tk84 : ti84.Ok Try.prog 84 := TI.Ok.of (by kernel_rfl) (by kernel_rfl) (by kernel_rfl)
theorem tk85 : ti85.Ok Try.prog 85 := TI.Ok.of (by kernel_rfl) (by kernel_rfl) (by kernel_rfl)
theorem tk86 : ti86.Ok Try.prog 86 := TI.Ok.of (by kernel_rfl) (by kernel_rfl) (by kernel_rfl)
theorem tk88 : ti88.Ok Try.prog 88 := TI.Ok.of (by kernel_rfl) (by kernel_rfl) (by kernel_rfl)
theorem tk89 : ti89.Ok Try.prog 89 := TI.Ok.of (by kernel_rfl) (by kernel_rfl) (by kernel_rfl)
theorem tk90 : ti90.Ok Try.prog 90 := TI.Ok.of (by kernel_rfl) (by kernel_rfl) (by kernel_rfl)
theorem tk91 : ti91.Ok Try.prog 91 := TI.Ok.of (by kernel_rfl) (by kernel_rfl) (by kernel_rfl)
theorem tk92 : ti92.Ok Try.prog 92 := TI.Ok.of (by kernel_rfl) (by kernel_rfl) (by kernel_rfl)
theorem tk93 : ti93.Ok Try.prog 93 := TI.Ok.of (by kernel_rfl) (by kernel_rfl) (by kernel_rfl)
theorem tk94 : ti94.Ok Try.prog 94 := TI.Ok.of (by kernel_rfl) (by kernel_rfl) (by kernel_rfl)
theorem tk95 : ti95.Ok Try.prog 95 := TI.Ok.of (by kernel_rfl) (by kernel_rfl) (by kernel_rfl)
theorem tk96 : ti96.Ok Try.prog 96 := TI.Ok.of (by kernel_rfl) (by kernel_rfl) (by kernel_rfl)
theorem tk97 : ti97.Ok Try.prog 97 := TI.Ok.of (by kernel_rfl) (by kernel_rfl) (by kernel_rfl)
theorem tk98 : ti98.Ok Try.prog 98 := TI.Ok.of (by kernel_rfl) (by kernel_rfl) (by kernel_rfl)
theorem tk99 : ti99.Ok Try.prog 99 := TI.Ok.of (by kernel_rfl) (by kernel_rfl) (by kernel_rfl)
theorem tk100 : ti100.Ok Try.prog 100 := TI.Ok.of (by kernel_rfl) (by kernel_rfl) (by kernel_rfl)
theorem tk101 : ti101.Ok Try.prog 101 := TI.Ok.of (by kernel_rfl) (by kernel_rfl) (by kernel_rfl)
theorem tk102 : ti102.Ok Try.prog 102 := TI.Ok.of (by kernel_rfl) (by kernel_rfl) (by kernel_rfl)
theorem tk103 : ti103.Ok Try.prog 103 := TI.Ok.of (by kernel_rfl) (by kernel_rfl) (by kernel_rfl)
theorem tk104 : ti104.Ok Try.prog 104 := TI.Ok.of (by kernel_rfl) (by kernel_rfl) (by kernel_rfl)
theorem tk105 : ti105.Ok Try.prog 105 := TI.Ok.of (by kernel_rfl) (by kernel_rfl) (by kernel_rfl)
theorem tk106 : ti106.Ok Try.prog 106 := TI.Ok.of (by kernel_rfl) (by kernel_rfl) (by kernel_rfl)
theorem tk107 : ti107.Ok Try.prog 107 := TI.Ok.of (by kernel_rfl) (by kernel_rfl) (by kernel_rfl)
theorem tk108 : ti108.Ok Try.prog 108 := TI.Ok.of (by kernel_rfl) (by kernel_rfl) (by kernel_rfl)
theorem tk109 : ti109.Ok Try.prog 109 := TI.Ok.of (by kernel_rfl) (by kernel_rfl) (by kernel_rfl)
theorem tk110 : ti110.Ok Try.prog 110 := TI.Ok.of (by kernel_rfl) (by kernel_rfl) (by kernel_rfl)
theorem tk111 : ti111.Ok Try.prog 111 := TI.Ok.of (by kernel_rfl) (by kernel_rfl) (by kernel_rfl)
theorem tk112 : ti112.Ok Try.prog 112 := TI.Ok.of (by kernel_rfl) (by kernel_rfl) (by kernel_rfl)
theorem tk113 : ti113.Ok Try.prog 113 := TI.Ok.of (by kernel_rfl) (by kernel_rfl) (by kernel_rfl)
theorem tk115 : ti115.Ok Try.prog 115 := TI.Ok.of (by kernel_rfl) (by kernel_rfl) (by kernel_rfl)
theorem tk117 : ti117.Ok Try.prog 117 := TI.Ok.of (by kernel_rfl) (by kernel_rfl) (by kernel_rfl)
theorem tk118 : ti118.Ok Try.prog 118 := TI.Ok.of (by kernel_rfl) (by kernel_rfl) (by kernel_rfl)
theorem tk119 : ti119.Ok Try.prog 119 := TI.Ok.of (by kernel_rfl) (by kernel_rfl) (by kernel_rfl)
theorem tk120 : ti120.Ok Try.prog 120 := TI.Ok.of (by kernel_rfl) (by kernel_rfl) (by kernel_rfl)
theorem tk121 : ti121.Ok Try.prog 121 := TI.Ok.of (by kernel_rfl) (by kernel_rfl) (by kernel_rfl)
theorem tk122 : ti122.Ok Try.prog 122 := TI.Ok.of (by kernel_rfl) (by kernel_rfl) (by kernel_rfl)
theorem tk124 : ti124.Ok Try.prog 124 := TI.Ok.of (by kernel_rfl) (by kernel_rfl) (by kernel_rfl)
theorem tk125 : ti125.Ok Try.prog 125 := TI.Ok.of (by kernel_rfl) (by kernel_rfl) (by kernel_rfl)
theorem tk126 : ti126.Ok Try.prog 126 := TI.Ok.of (by kernel_rfl) (by kernel_rfl) (by kernel_rfl)
theorem tk127 : ti127.Ok Try.prog 127 := TI.Ok.of (by kernel_rfl) (by kernel_rfl) (by kernel_rfl)
theorem tk128 : ti128.Ok Try.prog 128 := TI.Ok.of (by kernel_rfl) (by kernel_rfl) (by kernel_rfl)
theorem tk129 : ti129.Ok Try.prog 129 := TI.Ok.of (by kernel_rfl) (by kernel_rfl) (by kernel_rfl)
theorem tk130 : ti130.Ok Try.prog 130 := TI.Ok.of (by kernel_rfl) (by kernel_rfl) (by kernel_rfl)
theorem tk131 : ti131.Ok Try.prog 131 := TI.Ok.of (by kernel_rfl) (by kernel_rfl) (by kernel_rfl)
theorem tk132 : ti132.Ok Try.prog 132 := TI.Ok.of (by kernel_rfl) (by kernel_rfl) (by kernel_rfl)
theorem tk133 : ti133.Ok Try.prog 133 := TI.Ok.of (by kernel_rfl) (by kernel_rfl) (by kernel_rfl)
theorem tk134 : ti134.Ok Try.prog 134 := TI.Ok.of (by kernel_rfl) (by kernel_rfl) (by kernel_rfl)
theorem tk135 : ti135.Ok Try.prog 135 := TI.Ok.of (by kernel_rfl) (by kernel_rfl) (by kernel_rfl)
theorem tk136 : ti136.Ok Try.prog 136 := TI.Ok.of (by kernel_rfl) (by kernel_rfl) (by kernel_rfl)
theorem tk137 : ti137.Ok Try.prog 137 := TI.Ok.of (by kernel_rfl) (by kernel_rfl) (by kernel_rfl)
theorem tk138 : ti138.Ok Try.prog 138 := TI.Ok.of (by kernel_rfl) (by kernel_rfl) (by kernel_rfl)
theorem tk139 : ti139.Ok Try.prog 139 := TI.Ok.of (by kernel_rfl) (by kernel_rfl) (by kernel_rfl)
theorem tk140 : ti140.Ok Try.prog 140 := TI.Ok.of (by kernel_rfl) (by kernel_rfl) (by kernel_rfl)
theorem tk141 : ti141.Ok Try.prog 141 := TI.Ok.of (by kernel_rfl) (by kernel_rfl) (by kernel_rfl)
theorem tk142 : ti142.Ok Try.prog 142 := TI.Ok.of (by kernel_rfl) (by kernel_rfl) (by kernel_rfl)
theorem tk143 : ti143.Ok Try.prog 143 := TI.Ok.of (by kernel_rfl) (by kernel_rfl) (by kernel_rfl)
theorem tk144 : ti144.Ok Try.prog 144 := TI.Ok.of (by kernel_rfl) (by kernel_rfl) (by kernel_rfl)
theorem tk145 : ti145.Ok Try.prog 145 := TI.Ok.of (by kernel_rfl) (by kernel_rfl) (by kernel_rfl)
theorem tk146 : ti146.Ok Try.prog 146 := TI.Ok.of (by kernel_rfl) (by kernel_rfl) (by kernel_rfl)
theorem tk147 : ti147.Ok Try.prog 147 := TI.Ok.of (by kernel_rfl) (by kernel_rfl) (by kernel_rfl)
theorem tk148 : ti148.Ok Try.prog 148 := TI.Ok.of (by kernel_rfl) (by kernel_rfl) (by kernel_rfl)
theorem tk149 : ti149.Ok Try.prog 149 := TI.Ok.of (by kernel_rfl) (by kernel_rfl) (by kernel_rfl)
theorem tk150 : ti150.Ok Try.prog 150 := TI.Ok.of (by kernel_rfl) (by kernel_rfl) (by kernel_rfl)
theorem tk151 : ti151.Ok Try.prog 151 := TI.Ok.of (by kernel_rfl) (by kernel_rfl) (by kernel_rfl)
theorem tk152 : ti152.Ok Try.prog 152 := TI.Ok.of (by kernel_rfl) (by kernel_rfl) (by kernel_rfl)
theorem tk153 : ti153.Ok Try.prog 153 := TI.Ok.of (by kernel_rfl) (by kernel_rfl) (by kernel_rfl)
theorem tk154 : ti154.Ok Try.prog 154 := TI.Ok.of (by kernel_rfl) (by kernel_rfl) (by kernel_rfl)
theorem tk155 : ti155.Ok Try.prog 155 := TI.Ok.of (by kernel_rfl) (by kernel_rfl) (by kernel_rfl)
theorem tk156 : ti156.Ok Try.prog 156 := TI.Ok.of (by kernel_rfl) (by kernel_rfl) (by kernel_rfl)
theorem tk157 : ti157.Ok Try.prog 157 := TI.Ok.of (by kernel_rfl) (by kernel_rfl) (by kernel_rfl)
theorem tk158 : ti158.Ok Try.prog 158 := TI.Ok.of (by kernel_rfl) (by kernel_rfl) (by kernel_rfl)
theorem tk159 : ti159.Ok Try.prog 159 := TI.Ok.of (by kernel_rfl) (by kernel_rfl) (by kernel_rfl)
theorem tk160 : ti160.Ok Try.prog 160 := TI.Ok.of (by kernel_rfl) (by kernel_rfl) (by kernel_rfl)
theorem tk161 : ti161.Ok Try.prog 161 := TI.Ok.of (by kernel_rfl) (by kernel_rfl) (by kernel_rfl)
theorem tk162 : ti162.Ok Try.prog 162 := TI.Ok.of (by kernel_rfl) (by kernel_rfl) (by kernel_rfl)
theorem tk163 : ti163.Ok Try.prog 163 := TI.Ok.of (by kernel_rfl) (by kernel_rfl) (by kernel_rfl)
theorem tk164 : ti164.Ok Try.prog 164 := TI.Ok.of (by kernel_rfl) (by kernel_rfl) (by kernel_rfl)
theorem tk165 : ti165.Ok Try.prog 165 := TI.Ok.of (by kernel_rfl) (by kernel_rfl) (by kernel_rfl)
theorem tk166 : ti166.Ok Try.prog 166 := TI.Ok.of (by kernel_rfl) (by kernel_rfl) (by kernel_rfl)
theorem tk167 : ti167.Ok Try.prog 167 := TI.Ok.of (by kernel_rfl) (by kernel_rfl) (by kernel_rfl)
theorem tk168 : ti168.Ok Try.prog 168 := TI.Ok.of (by kernel_rfl) (by kernel_rfl) (by kernel_rfl)
theorem tk169 : ti169.Ok Try.prog 169 := TI.Ok.of (by kernel_rfl) (by kernel_rfl) (by kernel_rfl)
theorem tk171 : ti171.Ok Try.prog 171 := TI.Ok.of (by kernel_rfl) (by kernel_rfl) (by kernel_rfl)
theorem tk172 : ti172.Ok Try.prog 172 := TI.Ok.of (by kernel_rfl) (by kernel_rfl) (by kernel_rfl)
theorem tk173 : ti173.Ok Try.prog 173 := TI.Ok.of (by kernel_rfl) (by kernel_rfl) (by kernel_rfl)
theorem tk175 : ti175.Ok Try.prog 175 := TI.Ok.of (by kernel_rfl) (by kernel_rfl) (by kernel_rfl)
theorem tk176 : ti176.Ok Try.prog 176 := TI.Ok.of (by kernel_rfl) (by kernel_rfl) (by kernel_rfl)
theorem tk177 : ti177.Ok Try.prog 177 := TI.Ok.of (by kernel_rfl) (by kernel_rfl) (by kernel_rfl)
theorem tk178 : ti178.Ok Try.prog 178 := TI.Ok.of (by kernel_rfl) (by kernel_rfl) (by kernel_rfl)
theorem tk179 : ti179.Ok Try.prog 179 := TI.Ok.of (by kernel_rfl) (by kernel_rfl) (by kernel_rfl)
theorem tk180 : ti180.Ok Try.prog 180 := TI.Ok.of (by kernel_rfl) (by kernel_rfl) (by kernel_rfl)
theorem tk181 : ti181.Ok Try.prog 181 := TI.Ok.of (by kernel_rfl) (by kernel_rfl) (by kernel_rfl)
theorem tk182 : ti182.Ok Try.prog 182 := TI.Ok.of (by kernel_rfl) (by kernel_rfl) (by kernel_rfl)
theorem tk184 : ti184.Ok Try.prog 184 := TI.Ok.of (by kernel_rfl) (by kernel_rfl) (by kernel_rfl)
theorem tk185 : ti185.Ok Try.prog 185 := TI.Ok.of (by kernel_rfl) (by kernel_rfl) (by kernel_rfl)
theorem tk186 : ti186.Ok Try.prog 186 := TI.Ok.of (by kernel_rfl) (by kernel_rfl) (by kernel_rfl)
theorem tk187 : ti187.Ok Try.prog 187 := TI.Ok.of (by kernel_rfl) (by kernel_rfl) (by kernel_rfl)
theorem tk188 : ti188.Ok Try.prog 188 := TI.Ok.of (by kernel_rfl) (by kernel_rfl) (by kernel_rfl)
theorem tk189 : ti189.Ok Try.prog 189 := TI.Ok.of (by kernel_rfl) (by kernel_rfl) (by kernel_rfl)
theorem tk190 : ti190.Ok Try.prog 190 := TI.Ok.of (by kernel_rfl) (by kernel_rfl) (by kernel_rfl)
theorem tk191 : ti191.Ok Try.prog 191 := TI.Ok.of (by kernel_rfl) (by kernel_rfl) (by kernel_rfl)
theorem tk192 : ti192.Ok Try.prog 192 := TI.Ok.of (by kernel_rfl) (by kernel_rfl) (by kernel_rfl)
theorem tk193 : ti193.Ok Try.prog 193 := TI.Ok.of (by kernel_rfl) (by kernel_rfl) (by kernel_rfl)
theorem tk194 : ti194.Ok Try.prog 194 := TI.Ok.of (by kernel_rfl) (by kernel_rfl) (by kernel_rfl)
theorem tk195 : ti195.Ok Try.prog 195 := TI.Ok.of (by kernel_rfl) (by kernel_rfl) (by kernel_rfl)
theorem tk196 : ti196.Ok Try.prog 196 := TI.Ok.of (by kernel_rfl) (by kernel_rfl) (by kernel_rfl)
theorem tk197 : ti197.Ok Try.prog 197 := TI.Ok.of (by kernel_rfl) (by kernel_rfl) (by kernel_rfl)
theorem tk198 : ti198.Ok Try.prog 198 := TI.Ok.of (by kernel_rfl) (by kernel_rfl) (by kernel_rfl)
theorem tk199 : ti199.Ok Try.prog 199 := TI.Ok.of (by kernel_rfl) (by kernel_rfl) (by kernel_rfl)
theorem tk200 : ti200.Ok Try.prog 200 := TI.Ok.of (by kernel_rfl) (by kernel_rfl) (by kernel_rfl)
theorem tk201 : ti201.Ok Try.prog 201 := TI.Ok.of (by kernel_rfl) (by kernel_rfl) (by kernel_rfl)
theorem tk202 : ti202.Ok Try.prog 202 := TI.Ok.of (by kernel_rfl) (by kernel_rfl) (by kernel_rfl)
theorem tk203 : ti203.Ok Try.prog 203 := TI.Ok.of (by kernel_rfl) (by kernel_rfl) (by kernel_rfl)
theorem tk204 : ti204.Ok Try.prog 204 := TI.Ok.of (by kernel_rfl) (by kernel_rfl) (by kernel_rfl)
theorem tk205 : ti205.Ok Try.prog 205 := TI.Ok.of (by kernel_rfl) (by kernel_rfl) (by kernel_rfl)
theorem tk206 : ti206.Ok Try.prog 206 := TI.Ok.of (by kernel_rfl) (by kernel_rfl) (by kernel_rfl)
theorem tk207 : ti207.Ok Try.prog 207 := TI.Ok.of (by kernel_rfl) (by kernel_rfl) (by kernel_rfl)
theorem tk208 : ti208.Ok Try.prog 208 := TI.Ok.of (by kernel_rfl) (by kernel_rfl) (by kernel_rfl)
theorem tk210 : ti210.Ok Try.prog 210 := TI.Ok.of (by kernel_rfl) (by kernel_rfl) (by kernel_rfl)
theorem tk211 : ti211.Ok Try.prog 211 := TI.Ok.of (by kernel_rfl) (by kernel_rfl) (by kernel_rfl)
theorem tk212 : ti212.Ok Try.prog 212 := TI.Ok.of (by kernel_rfl) (by kernel_rfl) (by kernel_rfl)
theorem tk213 : ti213.Ok Try.prog 213 := TI.Ok.of (by kernel_rfl) (by kernel_rfl) (by kernel_rfl)
theorem tk214 : ti214.Ok Try.prog 214 := TI.Ok.of (by kernel_rfl) (by kernel_rfl) (by kernel_rfl)
theorem tk215 : ti215.Ok Try.prog 215 := TI.Ok.of (by kernel_rfl) (by kernel_rfl) (by kernel_rfl)
theorem tk216 : ti216.Ok Try.prog 216 := TI.Ok.of (by kernel_rfl) (by kernel_rfl) (by kernel_rfl)
theorem tk217 : ti217.Ok Try.prog 217 := TI.Ok.of (by kernel_rfl) (by kernel_rfl) (by kernel_rfl)
theorem tk218 : ti218.Ok Try.prog 218 := TI.Ok.of (by kernel_rfl) (by kernel_rfl) (by kernel_rfl)
theorem tk219 : ti219.Ok Try.prog 219 := TI.Ok.of (by kernel_rfl) (by kernel_rfl) (by kernel_rfl)
theorem tk220 : ti220.Ok Try.prog 220 := TI.Ok.of (by kernel_rfl) (by kernel_rfl) (by kernel_rfl)
theorem tk221 : ti221.Ok Try.prog 221 := TI.Ok.of (by kernel_rfl) (by kernel_rfl) (by kernel_rfl)
theorem tk222 : ti222.Ok Try.prog 222 := TI.Ok.of (by kernel_rfl) (by kernel_rfl) (by kernel_rfl)
theorem tk223 : ti223.Ok Try.prog 223 := TI.Ok.of (by kernel_rfl) (by kernel_rfl) (by kernel_rfl)
theorem tk224 : ti224.Ok Try.prog 224 := TI.Ok.of (by kernel_rfl) (by kernel_rfl) (by kernel_rfl)
theorem tk225 : ti225.Ok Try.prog 225 := TI.Ok.of (by kernel_rfl) (by kernel_rfl) (by kernel_rfl)
theorem tk226 : ti226.Ok Try.prog 226 := TI.Ok.of (by kernel_rfl) (by kernel_rfl) (by kernel_rfl)
theorem tk227 : ti227.Ok Try.prog 227 := TI.Ok.of (by kernel_rfl) (by kernel_rfl) (by kernel_rfl)
theorem tk228 : ti228.Ok Try.prog 228 := TI.Ok.of (by kernel_rfl) (by kernel_rfl) (by kernel_rfl)
theorem tiList_ok : ∀ p ∈ tiList, p.2.Ok Try.prog p.1 := by
  unfold tiList
  refine List.forall_mem_cons.2 ⟨tk1, ?_⟩
  refine List.forall_mem_cons.2 ⟨tk2, ?_⟩
  refine List.forall_mem_cons.2 ⟨tk3, ?_⟩
  refine List.forall_mem_cons.2 ⟨tk4, ?_⟩
  refine List.forall_mem_cons.2 ⟨tk5, ?_⟩
  refine List.forall_mem_cons.2 ⟨tk6, ?_⟩
  refine List.forall_mem_cons.2 ⟨tk7, ?_⟩
  refine List.forall_mem_cons.2 ⟨tk8, ?_⟩
  refine List.forall_mem_cons.2 ⟨tk9, ?_⟩
  refine List.forall_mem_cons.2 ⟨tk10, ?_⟩
  refine List.forall_mem_cons.2 ⟨tk11, ?_⟩
  refine List.forall_mem_cons.2 ⟨tk12, ?_⟩
  refine List.forall_mem_cons.2 ⟨tk13, ?_⟩
  refine List.forall_mem_cons.2 ⟨tk14, ?_⟩
  refine List.forall_mem_cons.2 ⟨tk15, ?_⟩
  refine List.forall_mem_cons.2 ⟨tk16, ?_⟩
  refine List.forall_mem_cons.2 ⟨tk17, ?_⟩
  refine List.forall_mem_cons.2 ⟨tk18, ?_⟩
  refine List.forall_mem_cons.2 ⟨tk19, ?_⟩
  refine List.forall_mem_cons.2 ⟨tk20, ?_⟩
  refine List.forall_mem_cons.2 ⟨tk21, ?_⟩
  refine List.forall_mem_cons.2 ⟨tk22, ?_⟩
  refine List.forall_mem_cons.2 ⟨tk23, ?_⟩
  refine List.forall_mem_cons.2 ⟨tk24, ?_⟩
  refine List.forall_mem_cons.2 ⟨tk25, ?_⟩
  refine List.forall_mem_cons.2 ⟨tk26, ?_⟩
  refine List.forall_mem_cons.2 ⟨tk27, ?_⟩
  refine List.forall_mem_cons.2 ⟨tk28, ?_⟩
  refine List.forall_mem_cons.2 ⟨tk29, ?_⟩
  refine List.forall_mem_cons.2 ⟨tk30, ?_⟩
  refine List.forall_mem_cons.2 ⟨tk31, ?_⟩
  refine List.forall_mem_cons.2 ⟨tk32, ?_⟩
  refine List.forall_mem_cons.2 ⟨tk33, ?_⟩
  refine List.forall_mem_cons.2 ⟨tk34, ?_⟩
  refine List.forall_mem_cons.2 ⟨tk35, ?_⟩
  refine List.forall_mem_cons.2 ⟨tk36, ?_⟩
  refine List.forall_mem_cons.2 ⟨tk37, ?_⟩
  refine List.forall_mem_cons.2 ⟨tk39, ?_⟩
  refine List.forall_mem_cons.2 ⟨tk41, ?_⟩
  refine List.forall_mem_cons.2 ⟨tk42, ?_⟩
  refine List.forall_mem_cons.2 ⟨tk43, ?_⟩
  refine List.forall_mem_cons.2 ⟨tk44, ?_⟩
  refine List.forall_mem_cons.2 ⟨tk46, ?_⟩
  refine List.forall_mem_cons.2 ⟨tk48, ?_⟩
  refine List.forall_mem_cons.2 ⟨tk49, ?_⟩
  refine List.forall_mem_cons.2 ⟨tk51, ?_⟩
  refine List.forall_mem_cons.2 ⟨tk52, ?_⟩
  refine List.forall_mem_cons.2 ⟨tk53, ?_⟩
  refine List.forall_mem_cons.2 ⟨tk54, ?_⟩
  refine List.forall_mem_cons.2 ⟨tk55, ?_⟩
  refine List.forall_mem_cons.2 ⟨tk56, ?_⟩
  refine List.forall_mem_cons.2 ⟨tk57, ?_⟩
  refine List.forall_mem_cons.2 ⟨tk58, ?_⟩
  refine List.forall_mem_cons.2 ⟨tk59, ?_⟩
  refine List.forall_mem_cons.2 ⟨tk60, ?_⟩
  refine List.forall_mem_cons.2 ⟨tk61, ?_⟩
  refine List.forall_mem_cons.2 ⟨tk62, ?_⟩
  refine List.forall_mem_cons.2 ⟨tk63, ?_⟩
  refine List.forall_mem_cons.2 ⟨tk64, ?_⟩
  refine List.forall_mem_cons.2 ⟨tk65, ?_⟩
  refine List.forall_mem_cons.2 ⟨tk66, ?_⟩
  refine List.forall_mem_cons.2 ⟨tk67, ?_⟩
  refine List.forall_mem_cons.2 ⟨tk69, ?_⟩
  refine List.forall_mem_cons.2 ⟨tk71, ?_⟩
  refine List.forall_mem_cons.2 ⟨tk72, ?_⟩
  refine List.forall_mem_cons.2 ⟨tk73, ?_⟩
  refine List.forall_mem_cons.2 ⟨tk74, ?_⟩
  refine List.forall_mem_cons.2 ⟨tk75, ?_⟩
  refine List.forall_mem_cons.2 ⟨tk76, ?_⟩
  refine List.forall_mem_cons.2 ⟨tk77, ?_⟩
  refine List.forall_mem_cons.2 ⟨tk78, ?_⟩
  refine List.forall_mem_cons.2 ⟨tk79, ?_⟩
  refine List.forall_mem_cons.2 ⟨tk80, ?_⟩
  refine List.forall_mem_cons.2 ⟨tk81, ?_⟩
  refine List.forall_mem_cons.2 ⟨tk82, ?_⟩
  refine List.forall_mem_cons.2 ⟨tk83, ?_⟩
  refine List.forall_mem_cons.2 ⟨tk84, ?_⟩
  refine List.forall_mem_cons.2 ⟨tk85, ?_⟩
  refine List.forall_mem_cons.2 ⟨tk86, ?_⟩
  refine List.forall_mem_cons.2 ⟨tk88, ?_⟩
  refine List.forall_mem_cons.2 ⟨tk89, ?_⟩
  refine List.forall_mem_cons.2 ⟨tk90, ?_⟩
  refine List.forall_mem_cons.2 ⟨tk91, ?_⟩
  refine List.forall_mem_cons.2 ⟨tk92, ?_⟩
  refine List.forall_mem_cons.2 ⟨tk93, ?_⟩
  refine List.forall_mem_cons.2 ⟨tk94, ?_⟩
  refine List.forall_mem_cons.2 ⟨tk95, ?_⟩
  refine List.forall_mem_cons.2 ⟨tk96, ?_⟩
  refine List.forall_mem_cons.2 ⟨tk97, ?_⟩
  refine List.forall_mem_cons.2 ⟨tk98, ?_⟩
  refine List.forall_mem_cons.2 ⟨tk99, ?_⟩
  refine List.forall_mem_cons.2 ⟨tk100, ?_⟩
  refine List.forall_mem_cons.2 ⟨tk101, ?_⟩
  refine List.forall_mem_cons.2 ⟨tk102, ?_⟩
  refine List.forall_mem_cons.2 ⟨tk103, ?_⟩
  refine List.forall_mem_cons.2 ⟨tk104, ?_⟩
  refine List.forall_mem_cons.2 ⟨tk105, ?_⟩
  refine List.forall_mem_cons.2 ⟨tk106, ?_⟩
  refine List.forall_mem_cons.2 ⟨tk107, ?_⟩
  refine List.forall_mem_cons.2 ⟨tk108, ?_⟩
  refine List.forall_mem_cons.2 ⟨tk109, ?_⟩
  refine List.forall_mem_cons.2 ⟨tk110, ?_⟩
  refine List.forall_mem_cons.2 ⟨tk111, ?_⟩
  refine List.forall_mem_cons.2 ⟨tk112, ?_⟩
  refine List.forall_mem_cons.2 ⟨tk113, ?_⟩
  refine List.forall_mem_cons.2 ⟨tk115, ?_⟩
  refine List.forall_mem_cons.2 ⟨tk117, ?_⟩
  refine List.forall_mem_cons.2 ⟨tk118, ?_⟩
  refine List.forall_mem_cons.2 ⟨tk119, ?_⟩
  refine List.forall_mem_cons.2 ⟨tk120, ?_⟩
  refine List.forall_mem_cons.2 ⟨tk121, ?_⟩
  refine List.forall_mem_cons.2 ⟨tk122, ?_⟩
  refine List.forall_mem_cons.2 ⟨tk124, ?_⟩
  refine List.forall_mem_cons.2 ⟨tk125, ?_⟩
  refine List.forall_mem_cons.2 ⟨tk126, ?_⟩
  refine List.forall_mem_cons.2 ⟨tk127, ?_⟩
  refine List.forall_mem_cons.2 ⟨tk128, ?_⟩
  refine List.forall_mem_cons.2 ⟨tk129, ?_⟩
  refine List.forall_mem_cons.2 ⟨tk130, ?_⟩
  refine List.forall_mem_cons.2 ⟨tk131, ?_⟩
  refine List.forall_mem_cons.2 ⟨tk132, ?_⟩
  refine List.forall_mem_cons.2 ⟨tk133, ?_⟩
  refine List.forall_mem_cons.2 ⟨tk134, ?_⟩
  refine List.forall_mem_cons.2 ⟨tk135, ?_⟩
  refine List.forall_mem_cons.2 ⟨tk136, ?_⟩
  refine List.forall_mem_cons.2 ⟨tk137, ?_⟩
  refine List.forall_mem_cons.2 ⟨tk138, ?_⟩
  refine List.forall_mem_cons.2 ⟨tk139, ?_⟩
  refine List.forall_mem_cons.2 ⟨tk140, ?_⟩
  refine List.forall_mem_cons.2 ⟨tk141, ?_⟩
  refine List.forall_mem_cons.2 ⟨tk142, ?_⟩
  refine List.forall_mem_cons.2 ⟨tk143, ?_⟩
  refine List.forall_mem_cons.2 ⟨tk144, ?_⟩
  refine List.forall_mem_cons.2 ⟨tk145, ?_⟩
  refine List.forall_mem_cons.2 ⟨tk146, ?_⟩
  refine List.forall_mem_cons.2 ⟨tk147, ?_⟩
  refine List.forall_mem_cons.2 ⟨tk148, ?_⟩
  refine List.forall_mem_cons.2 ⟨tk149, ?_⟩
  refine List.forall_mem_cons.2 ⟨tk150, ?_⟩
  refine List.forall_mem_cons.2 ⟨tk151, ?_⟩
  refine List.forall_mem_cons.2 ⟨tk152, ?_⟩
  refine List.forall_mem_cons.2 ⟨tk153, ?_⟩
  refine List.forall_mem_cons.2 ⟨tk154, ?_⟩
  refine List.forall_mem_cons.2 ⟨tk155, ?_⟩
  refine List.forall_mem_cons.2 ⟨tk156, ?_⟩
  refine List.forall_mem_cons.2 ⟨tk157, ?_⟩
  refine List.forall_mem_cons.2 ⟨tk158, ?_⟩
  refine List.forall_mem_cons.2 ⟨tk159, ?_⟩
  refine List.forall_mem_cons.2 ⟨tk160, ?_⟩
  refine List.forall_mem_cons.2 ⟨tk161, ?_⟩
  refine List.forall_mem_cons.2 ⟨tk162, ?_⟩
  refine List.forall_mem_cons.2 ⟨tk163, ?_⟩
  refine List.forall_mem_cons.2 ⟨tk164, ?_⟩
  refine List.forall_mem_cons.2 ⟨tk165, ?_⟩
  refine List.forall_mem_cons.2 ⟨tk166, ?_⟩
  refine List.forall_mem_cons.2 ⟨tk167, ?_⟩
  refine List.forall_mem_cons.2 ⟨tk168, ?_⟩
  refine List.forall_mem_cons.2 ⟨tk169, ?_⟩
  refine List.forall_mem_cons.2 ⟨tk171, ?_⟩
  refine List.forall_mem_cons.2 ⟨tk172, ?_⟩
  refine List.forall_mem_cons.2 ⟨tk173, ?_⟩
  refine List.forall_mem_cons.2 ⟨tk175, ?_⟩
  refine List.forall_mem_cons.2 ⟨tk176, ?_⟩
  refine List.forall_mem_cons.2 ⟨tk177, ?_⟩
  refine List.forall_mem_cons.2 ⟨tk178, ?_⟩
  refine List.forall_mem_cons.2 ⟨tk179, ?_⟩
  refine List.forall_mem_cons.2 ⟨tk180, ?_⟩
  refine List.forall_mem_cons.2 ⟨tk181, ?_⟩
  refine List.forall_mem_cons.2 ⟨tk182, ?_⟩
  refine List.forall_mem_cons.2 ⟨tk184, ?_⟩
  refine List.forall_mem_cons.2 ⟨tk185, ?_⟩
  refine List.forall_mem_cons.2 ⟨tk186, ?_⟩
  refine List.forall_mem_cons.2 ⟨tk187, ?_⟩
  refine List.forall_mem_cons.2 ⟨tk188, ?_⟩
  refine List.forall_mem_cons.2 ⟨tk189, ?_⟩
  refine List.forall_mem_cons.2 ⟨tk190, ?_⟩
  refine List.forall_mem_cons.2 ⟨tk191, ?_⟩
  refine List.forall_mem_cons.2 ⟨tk192, ?_⟩
  refine List.forall_mem_cons.2 ⟨tk193, ?_⟩
  refine List.forall_mem_cons.2 ⟨tk194, ?_⟩
  refine List.forall_mem_cons.2 ⟨tk195, ?_⟩
  refine List.forall_mem_cons.2 ⟨tk196, ?_⟩
  refine List.forall_mem_cons.2 ⟨tk197, ?_⟩
  refine List.forall_mem_cons.2 ⟨tk198, ?_⟩
  refine List.forall_mem_cons.2 ⟨tk199, ?_⟩
  refine List.forall_mem_cons.2 ⟨tk200, ?_⟩
  refine List.forall_mem_cons.2 ⟨tk201, ?_⟩
  refine List.forall_mem_cons.2 ⟨tk202, ?_⟩
  refine List.forall_mem_cons.2 ⟨tk203, ?_⟩
  refine List.forall_mem_cons.2 ⟨tk204, ?_⟩
  refine List.forall_mem_cons.2 ⟨tk205, ?_⟩
  refine List.forall_mem_cons.2 ⟨tk206, ?_⟩
  refine List.forall_mem_cons.2 ⟨tk207, ?_⟩
  refine List.forall_mem_cons.2 ⟨tk208, ?_⟩
  refine List.forall_mem_cons.2 ⟨tk210, ?_⟩
  refine List.forall_mem_cons.2 ⟨tk211, ?_⟩
  refine List.forall_mem_cons.2 ⟨tk212, ?_⟩
  refine List.forall_mem_cons.2 ⟨tk213, ?_⟩
  refine List.forall_mem_cons.2 ⟨tk214, ?_⟩
  refine List.forall_mem_cons.2 ⟨tk215, ?_⟩
  refine List.forall_mem_cons.2 ⟨tk216, ?_⟩
  refine List.forall_mem_cons.2 ⟨tk217, ?_⟩
  refine List.forall_mem_cons.2 ⟨tk218, ?_⟩
  refine List.forall_mem_cons.2 ⟨tk219, ?_⟩
  refine List.forall_mem_cons.2 ⟨tk220, ?_⟩
  refine List.forall_mem_cons.2 ⟨tk221, ?_⟩
  refine List.forall_mem_cons.2 ⟨tk222, ?_⟩
  refine List.forall_mem_cons.2 ⟨tk223, ?_⟩
  refine List.forall_mem_cons.2 ⟨tk224, ?_⟩
  refine List.forall_mem_cons.2 ⟨tk225, ?_⟩
  refine List.forall_mem_cons.2 ⟨tk226, ?_⟩
  refine List.forall_mem_cons.2 ⟨tk227, ?_⟩
  refine List.forall_mem_cons.2 ⟨tk228, ?_⟩
  intro p hp; cases hp
def FOk (p : Nat × Func) : Prop := Try.prog.funcs[p.1]? = some p.2 ∧ funcOk 0 (drOf (E0 []) p.1) p.2 = true
theorem fk2 : FOk (2, Try.f2) := ⟨Try.func2, by kernel_rfl⟩
theorem fk3 : FOk (3, Try.f3) := ⟨Try.func3, by kernel_rfl⟩
theorem fk4 : FOk (4, Try.f4) := ⟨Try.func4, by kernel_rfl⟩
theorem fk5 : FOk (5, Try.f5) := ⟨Try.func5, by kernel_rfl⟩
theorem fk6 : FOk (6, Try.f6) := ⟨Try.func6, by kernel_rfl⟩
theorem fk7 : FOk (7, Try.f7) := ⟨Try.func7, by kernel_rfl⟩
theorem fk8 : FOk (8, Try.f8) := ⟨Try.func8, by kernel_rfl⟩
theorem fk9 : FOk (9, Try.f9) := ⟨Try.func9, by kernel_rfl⟩
theorem fk10 : FOk (10, Try.f10) := ⟨Try.func10, by kernel_rfl⟩
theorem fk11 : FOk (11, Try.f11) := ⟨Try.func11, by kernel_rfl⟩
theorem fk12 : FOk (12, Try.f12) := ⟨Try.func12, by kernel_rfl⟩
theorem fk13 : FOk (13, Try.f13) := ⟨Try.func13, by kernel_rfl⟩
theorem fk14 : FOk (14, Try.f14) := ⟨Try.func14, by kernel_rfl⟩
theorem fk15 : FOk (15, Try.f15) := ⟨Try.func15, by kernel_rfl⟩
theorem fk16 : FOk (16, Try.f16) := ⟨Try.func16, by kernel_rfl⟩
theorem fk17 : FOk (17, Try.f17) := ⟨Try.func17, by kernel_rfl⟩
theorem fk18 : FOk (18, Try.f18) := ⟨Try.func18, by kernel_rfl⟩
theorem fk19 : FOk (19, Try.f19) := ⟨Try.func19, by kernel_rfl⟩
theorem fk20 : FOk (20, Try.f20) := ⟨Try.func20, by kernel_rfl⟩
theorem fk21 : FOk (21, Try.f21) := ⟨Try.func21, by kernel_rfl⟩
theorem fk22 : FOk (22, Try.f22) := ⟨Try.func22, by kernel_rfl⟩
theorem fk23 : FOk (23, Try.f23) := ⟨Try.func23, by kernel_rfl⟩
theorem fk24 : FOk (24, Try.f24) := ⟨Try.func24, by kernel_rfl⟩
theorem fk25 : FOk (25, Try.f25) := ⟨Try.func25, by kernel_rfl⟩
theorem fk26 : FOk (26, Try.f26) := ⟨Try.func26, by kernel_rfl⟩
theorem fk27 : FOk (27, Try.f27) := ⟨Try.func27, by kernel_rfl⟩
theorem fk28 : FOk (28, Try.f28) := ⟨Try.func28, by kernel_rfl⟩
theorem fk29 : FOk (29, Try.f29) := ⟨Try.func29, by kernel_rfl⟩
theorem fk30 : FOk (30, Try.f30) := ⟨Try.func30, by kernel_rfl⟩
theorem fk31 : FOk (31, Try.f31) := ⟨Try.func31, by kernel_rfl⟩
theorem fk32 : FOk (32, Try.f32) := ⟨Try.func32, by kernel_rfl⟩
theorem fk33 : FOk (33, Try.f33) := ⟨Try.func33, by kernel_rfl⟩
theorem fk34 : FOk (34, Try.f34) := ⟨Try.func34, by kernel_rfl⟩
theorem fk35 : FOk (35, Try.f35) := ⟨Try.func35, by kernel_rfl⟩
theorem fk36 : FOk (36, Try.f36) := ⟨Try.func36, by kernel_rfl⟩
theorem fk37 : FOk (37, Try.f37) := ⟨Try.func37, by kernel_rfl⟩
theorem fk38 : FOk (38, Try.f38) := ⟨Try.func38, by kernel_rfl⟩
theorem fk39 : FOk (39, Try.f39) := ⟨Try.func39, by kernel_rfl⟩
theorem fk40 : FOk (40, Try.f40) := ⟨Try.func40, by kernel_rfl⟩
theorem fk41 : FOk (41, Try.f41) := ⟨Try.func41, by kernel_rfl⟩
theorem fk42 : FOk (42, Try.f42) := ⟨Try.func42, by kernel_rfl⟩
theorem fk43 : FOk (43, Try.f43) := ⟨Try.func43, by kernel_rfl⟩
theorem fk44 : FOk (44, Try.f44) := ⟨Try.func44, by kernel_rfl⟩
theorem fk45 : FOk (45, Try.f45) := ⟨Try.func45, by kernel_rfl⟩
theorem fk46 : FOk (46, Try.f46) := ⟨Try.func46, by kernel_rfl⟩
theorem fk47 : FOk (47, Try.f47) := ⟨Try.func47, by kernel_rfl⟩
theorem fk48 : FOk (48, Try.f48) := ⟨Try.func48, by kernel_rfl⟩
theorem fk49 : FOk (49, Try.f49) := ⟨Try.func49, by kernel_rfl⟩
theorem fk50 : FOk (50, Try.f50) := ⟨Try.func50, by kernel_rfl⟩
theorem fk51 : FOk (51, Try.f51) := ⟨Try.func51, by kernel_rfl⟩
theorem fk52 : FOk (52, Try.f52) := ⟨Try.func52, by kernel_rfl⟩
theorem fk53 : FOk (53, Try.f53) := ⟨Try.func53, by kernel_rfl⟩
theorem fk54 : FOk (54, Try.f54) := ⟨Try.func54, by kernel_rfl⟩
theorem fk55 : FOk (55, Try.f55) := ⟨Try.func55, by kernel_rfl⟩
theorem fk56 : FOk (56, Try.f56) := ⟨Try.func56, by kernel_rfl⟩
theorem fk57 : FOk (57, Try.f57) := ⟨Try.func57, by kernel_rfl⟩
theorem fk58 : FOk (58, Try.f58) := ⟨Try.func58, by kernel_rfl⟩
theorem fk59 : FOk (59, Try.f59) := ⟨Try.func59, by kernel_rfl⟩
theorem fk60 : FOk (60, Try.f60) := ⟨Try.func60, by kernel_rfl⟩
theorem fk61 : FOk (61, Try.f61) := ⟨Try.func61, by kernel_rfl⟩
theorem fk62 : FOk (62, Try.f62) := ⟨Try.func62, by kernel_rfl⟩
theorem fk63 : FOk (63, Try.f63) := ⟨Try.func63, by kernel_rfl⟩
theorem fk64 : FOk (64, Try.f64) := ⟨Try.func64, by kernel_rfl⟩
theorem fk65 : FOk (65, Try.f65) := ⟨Try.func65, by kernel_rfl⟩
theorem fk66 : FOk (66, Try.f66) := ⟨Try.func66, by kernel_rfl⟩
theorem fk67 : FOk (67, Try.f67) := ⟨Try.func67, by kernel_rfl⟩
theorem fk68 : FOk (68, Try.f68) := ⟨Try.func68, by kernel_rfl⟩
theorem fk69 : FOk (69, Try.f69) := ⟨Try.func69, by kernel_rfl⟩
theorem fk70 : FOk (70, Try.f70) := ⟨Try.func70, by kernel_rfl⟩
theorem fk71 : FOk (71, Try.f71) := ⟨Try.func71, by kernel_rfl⟩
theorem fk72 : FOk (72, Try.f72) := ⟨Try.func72, by kernel_rfl⟩
theorem fk73 : FOk (73, Try.f73) := ⟨Try.func73, by kernel_rfl⟩
theorem fk74 : FOk (74, Try.f74) := ⟨Try.func74, by kernel_rfl⟩
theorem fk75 : FOk (75, Try.f75) := ⟨Try.func75, by kernel_rfl⟩
theorem fk76 : FOk (76, Try.f76) := ⟨Try.func76, by kernel_rfl⟩
theorem fk77 : FOk (77, Try.f77) := ⟨Try.func77, by kernel_rfl⟩
theorem fk78 : FOk (78, Try.f78) := ⟨Try.func78, by kernel_rfl⟩
theorem fk79 : FOk (79, Try.f79) := ⟨Try.func79, by kernel_rfl⟩
theorem fk80 : FOk (80, Try.f80) := ⟨Try.func80, by kernel_rfl⟩
theorem fk81 : FOk (81, Try.f81) := ⟨Try.func81, by kernel_rfl⟩
theorem fk82 : FOk (82, Try.f82) := ⟨Try.func82, by kernel_rfl⟩
theorem fk83 : FOk (83, Try.f83) := ⟨Try.func83, by kernel_rfl⟩
theorem fk84 : FOk (84, Try.f84) := ⟨Try.func84, by kernel_rfl⟩
theorem fk85 : FOk (85, Try.f85) := ⟨Try.func85, by kernel_rfl⟩
theorem fk86 : FOk (86, Try.f86) := ⟨Try.func86, by kernel_rfl⟩
theorem fk87 : FOk (87, Try.f87) := ⟨Try.func87, by kernel_rfl⟩
theorem fk88 : FOk (88, Try.f88) := ⟨Try.func88, by kernel_rfl⟩
theorem fk89 : FOk (89, Try.f89) := ⟨Try.func89, by kernel_rfl⟩
theorem fk90 : FOk (90, Try.f90) := ⟨Try.func90, by kernel_rfl⟩
theorem fk91 : FOk (91, Try.f91) := ⟨Try.func91, by kernel_rfl⟩
theorem fk92 : FOk (92, Try.f92) := ⟨Try.func92, by kernel_rfl⟩
theorem fk93 : FOk (93, Try.f93) := ⟨Try.func93, by kernel_rfl⟩
theorem fk94 : FOk (94, Try.f94) := ⟨Try.func94, by kernel_rfl⟩
theorem fk95 : FOk (95, Try.f95) := ⟨Try.func95, by kernel_rfl⟩
theorem fk96 : FOk (96, Try.f96) := ⟨Try.func96, by kernel_rfl⟩
theorem fk97 : FOk (97, Try.f97) := ⟨Try.func97, by kernel_rfl⟩
theorem fk98 : FOk (98, Try.f98) := ⟨Try.func98, by kernel_rfl⟩
theorem fk99 : FOk (99, Try.f99) := ⟨Try.func99, by kernel_rfl⟩
theorem fk100 : FOk (100, Try.f100) := ⟨Try.func100, by kernel_rfl⟩
theorem fk101 : FOk (101, Try.f101) := ⟨Try.func101, by kernel_rfl⟩
theorem fk102 : FOk (102, Try.f102) := ⟨Try.func102, by kernel_rfl⟩
theorem fk103 : FOk (103, Try.f103) := ⟨Try.func103, by kernel_rfl⟩
theorem fk104 : FOk (104, Try.f104) := ⟨Try.func104, by kernel_rfl⟩
theorem fk105 : FOk (105, Try.f105) := ⟨Try.func105, by kernel_rfl⟩
theorem fk106 : FOk (106, Try.f106) := ⟨Try.func106, by kernel_rfl⟩
theorem fk107 : FOk (107, Try.f107) := ⟨Try.func107, by kernel_rfl⟩
theorem fk108 : FOk (108, Try.f108) := ⟨Try.func108, by kernel_rfl⟩
theorem fk109 : FOk (109, Try.f109) := ⟨Try.func109, by kernel_rfl⟩
theorem fk110 : FOk (110, Try.f110) := ⟨Try.func110, by kernel_rfl⟩
theorem fk111 : FOk (111, Try.f111) := ⟨Try.func111, by kernel_rfl⟩
theorem fk112 : FOk (112, Try.f112) := ⟨Try.func112, by kernel_rfl⟩
theorem fk113 : FOk (113, Try.f113) := ⟨Try.func113, by kernel_rfl⟩
theorem fk114 : FOk (114, Try.f114) := ⟨Try.func114, by kernel_rfl⟩
theorem fk115 : FOk (115, Try.f115) := ⟨Try.func115, by kernel_rfl⟩
theorem fk116 : FOk (116, Try.f116) := ⟨Try.func116, by kernel_rfl⟩
theorem fk117 : FOk (117, Try.f117) := ⟨Try.func117, by kernel_rfl⟩
theorem fk118 : FOk (118, Try.f118) := ⟨Try.func118, by kernel_rfl⟩
theorem fk119 : FOk (119, Try.f119) := ⟨Try.func119, by kernel_rfl⟩
theorem fk120 : FOk (120, Try.f120) := ⟨Try.func120, by kernel_rfl⟩
theorem fk121 : FOk (121, Try.f121) := ⟨Try.func121, by kernel_rfl⟩
theorem fk122 : FOk (122, Try.f122) := ⟨Try.func122, by kernel_rfl⟩
theorem fk123 : FOk (123, Try.f123) := ⟨Try.func123, by kernel_rfl⟩
theorem fk124 : FOk (124, Try.f124) := ⟨Try.func124, by kernel_rfl⟩
theorem fk125 : FOk (125, Try.f125) := ⟨Try.func125, by kernel_rfl⟩
theorem fk126 : FOk (126, Try.f126) := ⟨Try.func126, by kernel_rfl⟩
theorem fk127 : FOk (127, Try.f127) := ⟨Try.func127, by kernel_rfl⟩
theorem fk128 : FOk (128, Try.f128) := ⟨Try.func128, by kernel_rfl⟩
theorem fk129 : FOk (129, Try.f129) := ⟨Try.func129, by kernel_rfl⟩
theorem fk130 : FOk (130, Try.f130) := ⟨Try.func130, by kernel_rfl⟩
theorem fk131 : FOk (131, Try.f131) := ⟨Try.func131, by kernel_rfl⟩
theorem fk132 : FOk (132, Try.f132) := ⟨Try.func132, by kernel_rfl⟩
theorem fk133 : FOk (133, Try.f133) := ⟨Try.func133, by kernel_rfl⟩
theorem fk134 : FOk (134, Try.f134) := ⟨Try.func134, by kernel_rfl⟩
theorem fk135 : FOk (135, Try.f135) := ⟨Try.func135, by kernel_rfl⟩
theorem fk136 : FOk (136, Try.f136) := ⟨Try.func136, by kernel_rfl⟩
theorem fk137 : FOk (137, Try.f137) := ⟨Try.func137, by kernel_rfl⟩
theorem fk138 : FOk (138, Try.f138) := ⟨Try.func138, by kernel_rfl⟩
theorem fk139 : FOk (139, Try.f139) := ⟨Try.func139, by kernel_rfl⟩
theorem fk140 : FOk (140, Try.f140) := ⟨Try.func140, by kernel_rfl⟩
theorem fk141 : FOk (141, Try.f141) := ⟨Try.func141, by kernel_rfl⟩
theorem fk142 : FOk (142, Try.f142) := ⟨Try.func142, by kernel_rfl⟩
theorem fk143 : FOk (143, Try.f143) := ⟨Try.func143, by kernel_rfl⟩
theorem fk144 : FOk (144, Try.f144) := ⟨Try.func144, by kernel_rfl⟩
theorem fk145 : FOk (145, Try.f145) := ⟨Try.func145, by kernel_rfl⟩
theorem fk146 : FOk (146, Try.f146) := ⟨Try.func146, by kernel_rfl⟩
theorem fk147 : FOk (147, Try.f147) := ⟨Try.func147, by kernel_rfl⟩
theorem fk148 : FOk (148, Try.f148) := ⟨Try.func148, by kernel_rfl⟩
theorem fk149 : FOk (149, Try.f149) := ⟨Try.func149, by kernel_rfl⟩
theorem fk150 : FOk (150, Try.f150) := ⟨Try.func150, by kernel_rfl⟩
theorem fk151 : FOk (151, Try.f151) := ⟨Try.func151, by kernel_rfl⟩
theorem fk152 : FOk (152, Try.f152) := ⟨Try.func152, by kernel_rfl⟩
theorem fk153 : FOk (153, Try.f153) := ⟨Try.func153, by kernel_rfl⟩
theorem fk154 : FOk (154, Try.f154) := ⟨Try.func154, by kernel_rfl⟩
theorem fk155 : FOk (155, Try.f155) := ⟨Try.func155, by kernel_rfl⟩
theorem fk156 : FOk (156, Try.f156) := ⟨Try.func156, by kernel_rfl⟩
theorem fk157 : FOk (157, Try.f157) := ⟨Try.func157, by kernel_rfl⟩
theorem fk158 : FOk (158, Try.f158) := ⟨Try.func158, by kernel_rfl⟩
theorem fk159 : FOk (159, Try.f159) := ⟨Try.func159, by kernel_rfl⟩
theorem fk160 : FOk (160, Try.f160) := ⟨Try.func160, by kernel_rfl⟩
theorem fnList_ok : ∀ p ∈ fnList, FOk p := by
  unfold fnList
  refine List.forall_mem_cons.2 ⟨fk2, ?_⟩
  refine List.forall_mem_cons.2 ⟨fk3, ?_⟩
  refine List.forall_mem_cons.2 ⟨fk4, ?_⟩
  refine List.forall_mem_cons.2 ⟨fk5, ?_⟩
  refine List.forall_mem_cons.2 ⟨fk6, ?_⟩
  refine List.forall_mem_cons.2 ⟨fk7, ?_⟩
  refine List.forall_mem_cons.2 ⟨fk8, ?_⟩
  refine List.forall_mem_cons.2 ⟨fk9, ?_⟩
  refine List.forall_mem_cons.2 ⟨fk10, ?_⟩
  refine List.forall_mem_cons.2 ⟨fk11, ?_⟩
  refine List.forall_mem_cons.2 ⟨fk12, ?_⟩
  refine List.forall_mem_cons.2 ⟨fk13, ?_⟩
  refine List.forall_mem_cons.2 ⟨fk14, ?_⟩
  refine List.forall_mem_cons.2 ⟨fk15, ?_⟩
  refine List.forall_mem_cons.2 ⟨fk16, ?_⟩
  refine List.forall_mem_cons.2 ⟨fk17, ?_⟩
  refine List.forall_mem_cons.2 ⟨fk18, ?_⟩
  refine List.forall_mem_cons.2 ⟨fk19, ?_⟩
  refine List.forall_mem_cons.2 ⟨fk20, ?_⟩
  refine List.forall_mem_cons.2 ⟨fk21, ?_⟩
  refine List.forall_mem_cons.2 ⟨fk22, ?_⟩
  refine List.forall_mem_cons.2 ⟨fk23, ?_⟩
  refine List.forall_mem_cons.2 ⟨fk24, ?_⟩
  refine List.forall_mem_cons.2 ⟨fk25, ?_⟩
  refine List.forall_mem_cons.2 ⟨fk26, ?_⟩
  refine List.forall_mem_cons.2 ⟨fk27, ?_⟩
  refine List.forall_mem_cons.2 ⟨fk28, ?_⟩
  refine List.forall_mem_cons.2 ⟨fk29, ?_⟩
  refine List.forall_mem_cons.2 ⟨fk30, ?_⟩
  refine List.forall_mem_cons.2 ⟨fk31, ?_⟩
  refine List.forall_mem_cons.2 ⟨fk32, ?_⟩
  refine List.forall_mem_cons.2 ⟨fk33, ?_⟩
  refine List.forall_mem_cons.2 ⟨fk34, ?_⟩
  refine List.forall_mem_cons.2 ⟨fk35, ?_⟩
  refine List.forall_mem_cons.2 ⟨fk36, ?_⟩
  refine List.forall_mem_cons.2 ⟨fk37, ?_⟩
  refine List.forall_mem_cons.2 ⟨fk38, ?_⟩
  refine List.forall_mem_cons.2 ⟨fk39, ?_⟩
  refine List.forall_mem_cons.2 ⟨fk40, ?_⟩
  refine List.forall_mem_cons.2 ⟨fk41, ?_⟩
  refine List.forall_mem_cons.2 ⟨fk42, ?_⟩
  refine List.forall_mem_cons.2 ⟨fk43, ?_⟩
  refine List.forall_mem_cons.2 ⟨fk44, ?_⟩
  refine List.forall_mem_cons.2 ⟨fk45, ?_⟩
  refine List.forall_mem_cons.2 ⟨fk46, ?_⟩
  refine List.forall_mem_cons.2 ⟨fk47, ?_⟩
  refine List.forall_mem_cons.2 ⟨fk48, ?_⟩
  refine List.forall_mem_cons.2 ⟨fk49, ?_⟩
  refine List.forall_mem_cons.2 ⟨fk50, ?_⟩
  refine List.forall_mem_cons.2 ⟨fk51, ?_⟩
  refine List.forall_mem_cons.2 ⟨fk52, ?_⟩
  refine List.forall_mem_cons.2 ⟨fk53, ?_⟩
  refine List.forall_mem_cons.2 ⟨fk54, ?_⟩
  refine List.forall_mem_cons.2 ⟨fk55, ?_⟩
  refine List.forall_mem_cons.2 ⟨fk56, ?_⟩
  refine List.forall_mem_cons.2 ⟨fk57, ?_⟩
  refine List.forall_mem_cons.2 ⟨fk58, ?_⟩
  refine List.forall_mem_cons.2 ⟨fk59, ?_⟩
  refine List.forall_mem_cons.2 ⟨fk60, ?_⟩
  refine List.forall_mem_cons.2 ⟨fk61, ?_⟩
  refine List.forall_mem_cons.2 ⟨fk62, ?_⟩
  refine List.forall_mem_cons.2 ⟨fk63, ?_⟩
  refine List.forall_mem_cons.2 ⟨fk64, ?_⟩
  refine List.forall_mem_cons.2 ⟨fk65, ?_⟩
  refine List.forall_mem_cons.2 ⟨fk66, ?_⟩
  refine List.forall_mem_cons.2 ⟨fk67, ?_⟩
  refine List.forall_mem_cons.2 ⟨fk68, ?_⟩
  refine List.forall_mem_cons.2 ⟨fk69, ?_⟩
  refine List.forall_mem_cons.2 ⟨fk70, ?_⟩
  refine List.forall_mem_cons.2 ⟨fk71, ?_⟩
  refine List.forall_mem_cons.2 ⟨fk72, ?_⟩
  refine List.forall_mem_cons.2 ⟨fk73, ?_⟩
  refine List.forall_mem_cons.2 ⟨fk74, ?_⟩
  refine List.forall_mem_cons.2 ⟨fk75, ?_⟩
  refine List.forall_mem_cons.2 ⟨fk76, ?_⟩
  refine List.forall_mem_cons.2 ⟨fk77, ?_⟩
  refine List.forall_mem_cons.2 ⟨fk78, ?_⟩
  refine List.forall_mem_cons.2 ⟨fk79, ?_⟩
  refine List.forall_mem_cons.2 ⟨fk80, ?_⟩
  refine List.forall_mem_cons.2 ⟨fk81, ?_⟩
  refine List.forall_mem_cons.2 ⟨fk82, ?_⟩
  refine List.forall_mem_cons.2 ⟨fk83, ?_⟩
  refine List.forall_mem_cons.2 ⟨fk84, ?_⟩
  refine List.forall_mem_cons.2 ⟨fk85, ?_⟩
  refine List.forall_mem_cons.2 ⟨fk86, ?_⟩
  refine List.forall_mem_cons.2 ⟨fk87, ?_⟩
  refine List.forall_mem_cons.2 ⟨fk88, ?_⟩
  refine List.forall_mem_cons.2 ⟨fk89, ?_⟩
  refine List.forall_mem_cons.2 ⟨fk90, ?_⟩
  refine List.forall_mem_cons.2 ⟨fk91, ?_⟩
  refine List.forall_mem_cons.2 ⟨fk92, ?_⟩
  refine List.forall_mem_cons.2 ⟨fk93, ?_⟩
  refine List.forall_mem_cons.2 ⟨fk94, ?_⟩
  refine List.forall_mem_cons.2 ⟨fk95, ?_⟩
  refine List.forall_mem_cons.2 ⟨fk96, ?_⟩
  refine List.forall_mem_cons.2 ⟨fk97, ?_⟩
  refine List.forall_mem_cons.2 ⟨fk98, ?_⟩
  refine List.forall_mem_cons.2 ⟨fk99, ?_⟩
  refine List.forall_mem_cons.2 ⟨fk100, ?_⟩
  refine List.forall_mem_cons.2 ⟨fk101, ?_⟩
  refine List.forall_mem_cons.2 ⟨fk102, ?_⟩
  refine List.forall_mem_cons.2 ⟨fk103, ?_⟩
  refine List.forall_mem_cons.2 ⟨fk104, ?_⟩
  refine List.forall_mem_cons.2 ⟨fk105, ?_⟩
  refine List.forall_mem_cons.2 ⟨fk106, ?_⟩
  refine List.forall_mem_cons.2 ⟨fk107, ?_⟩
  refine List.forall_mem_cons.2 ⟨fk108, ?_⟩
  refine List.forall_mem_cons.2 ⟨fk109, ?_⟩
  refine List.forall_mem_cons.2 ⟨fk110, ?_⟩
  refine List.forall_mem_cons.2 ⟨fk111, ?_⟩
  refine List.forall_mem_cons.2 ⟨fk112, ?_⟩
  refine List.forall_mem_cons.2 ⟨fk113, ?_⟩
  refine List.forall_mem_cons.2 ⟨fk114, ?_⟩
  refine List.forall_mem_cons.2 ⟨fk115, ?_⟩
  refine List.forall_mem_cons.2 ⟨fk116, ?_⟩
  refine List.forall_mem_cons.2 ⟨fk117, ?_⟩
  refine List.forall_mem_cons.2 ⟨fk118, ?_⟩
  refine List.forall_mem_cons.2 ⟨fk119, ?_⟩
  refine List.forall_mem_cons.2 ⟨fk120, ?_⟩
  refine List.forall_mem_cons.2 ⟨fk121, ?_⟩
  refine List.forall_mem_cons.2 ⟨fk122, ?_⟩
  refine List.forall_mem_cons.2 ⟨fk123, ?_⟩
  refine List.forall_mem_cons.2 ⟨fk124, ?_⟩
  refine List.forall_mem_cons.2 ⟨fk125, ?_⟩
  refine List.forall_mem_cons.2 ⟨fk126, ?_⟩
  refine List.forall_mem_cons.2 ⟨fk127, ?_⟩
  refine List.forall_mem_cons.2 ⟨fk128, ?_⟩
  refine List.forall_mem_cons.2 ⟨fk129, ?_⟩
  refine List.forall_mem_cons.2 ⟨fk130, ?_⟩
  refine List.forall_mem_cons.2 ⟨fk131, ?_⟩
  refine List.forall_mem_cons.2 ⟨fk132, ?_⟩
  refine List.forall_mem_cons.2 ⟨fk133, ?_⟩
  refine List.forall_mem_cons.2 ⟨fk134, ?_⟩
  refine List.forall_mem_cons.2 ⟨fk135, ?_⟩
  refine List.forall_mem_cons.2 ⟨fk136, ?_⟩
  refine List.forall_mem_cons.2 ⟨fk137, ?_⟩
  refine List.forall_mem_cons.2 ⟨fk138, ?_⟩
  refine List.forall_mem_cons.2 ⟨fk139, ?_⟩
  refine List.forall_mem_cons.2 ⟨fk140, ?_⟩
  refine List.forall_mem_cons.2 ⟨fk141, ?_⟩
  refine List.forall_mem_cons.2 ⟨fk142, ?_⟩
  refine List.forall_mem_cons.2 ⟨fk143, ?_⟩
  refine List.forall_mem_cons.2 ⟨fk144, ?_⟩
  refine List.forall_mem_cons.2 ⟨fk145, ?_⟩
  refine List.forall_mem_cons.2 ⟨fk146, ?_⟩
  refine List.forall_mem_cons.2 ⟨fk147, ?_⟩
  refine List.forall_mem_cons.2 ⟨fk148, ?_⟩
  refine List.forall_mem_cons.2 ⟨fk149, ?_⟩
  refine List.forall_mem_cons.2 ⟨fk150, ?_⟩
  refine List.forall_mem_cons.2 ⟨fk151, ?_⟩
  refine List.forall_mem_cons.2 ⟨fk152, ?_⟩
  refine List.forall_mem_cons.2 ⟨fk153, ?_⟩
  refine List.forall_mem_cons.2 ⟨fk154, ?_⟩
  refine List.forall_mem_cons.2 ⟨fk155, ?_⟩
  refine List.forall_mem_cons.2 ⟨fk156, ?_⟩
  refine List.forall_mem_cons.2 ⟨fk157, ?_⟩
  refine List.forall_mem_cons.2 ⟨fk158, ?_⟩
  refine List.forall_mem_cons.2 ⟨fk159, ?_⟩
  refine List.forall_mem_cons.2 ⟨fk160, ?_⟩
  intro p hp; cases hp
theorem E0_ok (ext : List (Nat × Unit)) : (E0 ext).Ok Try.prog 0   := {
  ti := fun t i h => tiList_ok (t, i) (PT.get_ofList h),
  fn := fun f g h => fnList_ok (f, g) (PT.get_ofList h),
  mixed := by kernel_rfl }
end Go.Amb
